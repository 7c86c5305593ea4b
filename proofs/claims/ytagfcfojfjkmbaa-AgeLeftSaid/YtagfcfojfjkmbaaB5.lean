/- file: the walk. -/
import Derived.Test.YtagfcfojfjkmbaaB4
import Derived.Deep.RegionLaw
namespace Go.Proofs.Ytagfcfojfjkmbaa
open Go.RowKit Go.Shelf

theorem ownB_of {W : World} {Bl : Nat} {v : Value} {t : TypeId} {fr : Nat × Nat} (h : W.heap[Bl]? = some (.cells #[v] t fr)) : ownB W Bl = v.ownBlock := by
  unfold ownB; rw [cell_of_row W Bl 0 _ _ _ h]; rfl
theorem set_one {W : World} {Bl : Nat} {v u : Value} {t : TypeId} (h : W.heap[Bl]? = some (.cells #[v] t (0, 0))) : (W.setCell ⟨Bl, 0, none⟩ u).heap[Bl]? = some (.cells #[u] t (0, 0)) := by
  simp [World.setCell, Array.getElem?_modify, h]

theorem YI.step {Bl : Nat} {day : Int} {Wb W W2 : World} {pre : List BR} {x : BR} {lv v' : Value} (hBl : Bl < Wb.heap.size)
    (h1 : W.heap[Bl]? = some (.cells #[lv] 38 (0, 0))) (h2 : RS W Wb.heap.size lv (foldR day pre)) (h3 : Fr (fun q => q = Bl) Wb W)
    (g1 : RS W2 Wb.heap.size v' (ext (foldR day pre) (day - 365 * x.1.2 - 364) (day - 365 * x.1.1))) (g2 : W.grownBy W2 lv.ownBlock) (g3 : v'.ownBlock = lv.ownBlock ∨ ∀ k, v'.ownBlock = some k → W.heap.size ≤ k) :
    KeepsOthers W (W2.setCell ⟨Bl, 0, none⟩ v') ∧ Kp Bl W (W2.setCell ⟨Bl, 0, none⟩ v') ∧ YI Bl day Wb (pre ++ [x]) (W2.setCell ⟨Bl, 0, none⟩ v') := by
  have hl : ∀ q, lv.ownBlock = some q → Wb.heap.size ≤ q ∧ ∃ cur, W.heap[q]? = some (.cells cur 41 (0, 0)) := fun q hq => by
    rcases h2.2 with ⟨rfl, _⟩ | ⟨g, cap, cur, rfl, hg, hc, _⟩
    · cases hq
    · cases hq; exact ⟨hg, cur, hc⟩
  have hsB := (Array.getElem?_eq_some_iff.1 h1).1
  have k1 : W2.heap[Bl]? = some (.cells #[lv] 38 (0, 0)) := (g2.block _ hsB (fun e => by have := (hl _ e.symm).1; omega)).trans h1
  have f1 := Fr.grown g2
  have f2 := Fr.set W2 Bl 0 v'
  have k2 := set_one (u := v') k1
  have f : Fr (fun q => q = Bl ∨ lv.ownBlock = some q) W (W2.setCell ⟨Bl, 0, none⟩ v') := (f1.mono (fun _ _ h => .inr h)).trans (f2.mono (fun _ _ h => .inl h))
  refine ⟨⟨f.size, fun k o hk ho => ?_⟩, ⟨f.os, f.tape, f.output, f.size, fun k c t fr hk hne hno => ?_, ?_⟩, v', k2, ?_, ?_⟩
  · refine (f.block k (Array.getElem?_eq_some_iff.1 hk).1 ?_).trans hk
    rintro (rfl | h)
    · rw [h1] at hk; cases hk; cases ho
    · obtain ⟨_, cur, hc⟩ := hl _ h; rw [hc] at hk; cases hk; cases ho
  · refine (f.block k (Array.getElem?_eq_some_iff.1 hk).1 ?_).trans hk
    rintro (rfl | h)
    · exact hne rfl
    · exact hno (by rw [ownB_of h1]; exact h)
  · rw [ownB_of k2, ownB_of h1]; exact g3
  · rw [foldR_snoc]
    refine g1.fr f2 ?_
    rintro g cur hg hb _ rfl
    omega
  · refine ⟨f.os.trans h3.os, f.tape.trans h3.tape, f.output.trans h3.output, Nat.le_trans h3.size f.size, fun q hq he => ?_⟩
    refine (f.block q (Nat.lt_of_lt_of_le hq h3.size) ?_).trans (h3.block q hq he)
    rintro (h | h)
    · exact he h
    · have := (hl _ h).1; omega

theorem Pers.ok_facts {p : Pers} (h : p.fault = 0) : p.nr ≤ 4 ∧ p.nc ≤ 8 ∧ 0 < p.nr ∧ -50000 ≤ p.lo ∧ p.lo ≤ 50000 ∧ -50000 ≤ p.hi ∧ p.hi ≤ 50000 ∧ p.lo ≤ p.hi ∧ (∀ j, j < p.nr → (p.R j).ok = true) ∧ ∀ j, j < p.nc → (p.C j).ok p.nr = true := by
  unfold Pers.fault errOf at h
  split at h
  · cases h
  · split at h
    · rename_i h1 h2
      simp only [Pers.okAll, allB, inB, Bool.and_eq_true, List.all_eq_true, List.mem_range, decide_eq_true_eq, Bool.not_eq_true', beq_eq_false_iff_ne] at h2
      exact ⟨by omega, by omega, by omega, by omega, by omega, by omega, by omega, by omega, h2.1.2, h2.2⟩
    · cases h
theorem Rc.ok_facts {r : Rc} {nr : Nat} (h : r.ok nr = true) : -50000 ≤ r.day ∧ r.day ≤ 50000 ∧ 0 ≤ r.rule ∧ r.rule < nr ∧ 0 ≤ r.num ∧ r.num ≤ 140 := by
  simp only [Rc.ok, inB, Bool.and_eq_true, decide_eq_true_eq] at h; omega

theorem own_fr {ex : Nat → Prop} {W W' : World} {base : Nat} {E size n : Nat} {v : Value} {xs : List Value} (h : W.ownsRow base E size v n xs) (hf : Fr ex W W') (hx : ∀ g cur, v.ownBlock = some g → base ≤ g → W.heap[g]? = some (.cells cur E (0, 0)) → ¬ ex g) : W'.ownsRow base E size v n xs := by
  refine ⟨h.1, ?_⟩
  rcases h.2 with h | ⟨g, cap, cur, rfl, hg, hc, r⟩
  · exact .inl h
  · exact .inr ⟨g, cap, cur, rfl, hg, (hf.block _ (Array.getElem?_eq_some_iff.1 hc).1 (hx g cur rfl hg hc)).trans hc, r⟩
theorem own_mono {W : World} {base base' : Nat} {E size n : Nat} {v : Value} {xs : List Value} (h : W.ownsRow base E size v n xs) (hb : base' ≤ base) : W.ownsRow base' E size v n xs := by
  refine ⟨h.1, ?_⟩
  rcases h.2 with h | ⟨g, cap, cur, rfl, hg, r⟩
  · exact .inl h
  · exact .inr ⟨g, cap, cur, rfl, by omega, r⟩
theorem FileAt.put {W : World} {F l : Nat} {p : Pers} {o o' : Obj} (h : FileAt W F p) (hl : W.heap[l]? = some o) (ho : o.isCells = false) : FileAt (W.putObj l o') F p := by
  obtain ⟨rv, cv, av, svs, h1, h2, h3, h4⟩ := h
  have hne : ∀ q c t fr, W.heap[q]? = some (.cells c t fr) → ¬ q = l := fun q c t fr hq e => by
    subst e; rw [hq] at hl; cases hl; cases ho
  exact ⟨rv, cv, av, svs, ((Fr.put W l o').block _ (Array.getElem?_eq_some_iff.1 h1).1 (hne _ _ _ _ h1)).trans h1, h2, own_fr h3 (Fr.put W l o') (fun _ _ _ _ hc => hne _ _ _ _ hc), fun j hj => (h4 j hj).fr (Fr.put W l o') (fun _ _ _ _ hc => hne _ _ _ _ hc)⟩
/-- A part that never leaves but at its end. -/
theorem wp_calm {P : Program} {c : Code} {Q : Exit → Act → World → Prop} {a : Act} {w : World} (h : c.wp P (Exit.then (fun a w => Q .normal a w) (fun _ _ _ => False)) a w) : c.wp P Q a w :=
  wp_mono h fun e a w hq => by cases e <;> first | exact hq | exact hq.elim
theorem grown_block {W X w1 : World} {row : Option Nat} {b : Nat} {o : Obj} (hg : X.grownBy w1 row) (hB : Below W.heap.size W X) (hb : b < W.heap.size) (hne : ∀ q, row = some q → q ≠ b) (h : W.heap[b]? = some o) : w1.heap[b]? = some o :=
  (hg.block b (Nat.lt_of_lt_of_le hb hB.size) (fun e => hne b e.symm rfl)).trans ((hB.block b hb).trans h)
theorem FI.appended {w : World} {p : Pers} {rv cv : Value} {k : Nat} {ds : List Deferred} {W W5 X w1 : World} {av av' lv : Value} {svs : Nat → Value} {D B : Nat}
    (h1 : Below w.heap.size w W) (h2 : W.heap[w.heap.size]? = some (.cells #[.int .i64 p.lo, .int .i64 p.hi, rv, cv] 45 (0, 0))) (h3 : Marks W (w.heap.size + 2) W.heap.size ds)
    (h4 : W.heap[w.heap.size + 1]? = some (.cells #[.int .i64 p.lo, .int .i64 p.hi, rv, cv, av] 124 (0, 0))) (h5 : W.ownsRow (w.heap.size + 2) 38 1 av k ((List.range k).map svs)) (h6 : ∀ j, j < k → RS W (w.heap.size + 2) (svs j) (p.allow j))
    (hB5 : Below W.heap.size W W5) (hX : Below W5.heap.size W5 X) (hg : X.grownBy w1 av.ownBlock) (hav : ∀ q, av.ownBlock = some q → w.heap.size + 2 ≤ q ∧ q < W.heap.size)
    (hblk : w1.heap[w.heap.size + 1]? = some (.cells #[.int .i64 p.lo, .int .i64 p.hi, rv, cv, av] 124 (0, 0)))
    (ho : w1.ownsRow (w.heap.size + 2) 38 1 av' (k + 1) ((List.range k).map svs ++ [lv])) (hl : RS W5 B lv (p.allow k)) (hBW : W.heap.size ≤ B)
    (hD : B ≤ D) (hD' : W5.heap[D]? = some (.deferred (some []))) : FI w p rv cv (k + 1) ({ target := .collected D, args := #[] } :: ds) (w1.setCell ⟨w.heap.size + 1, 4, none⟩ av') := by
  have hs : w.heap.size + 1 < W.heap.size := (Array.getElem?_eq_some_iff.1 h4).1
  have f3 : Fr (fun q => q = w.heap.size + 1 ∨ av.ownBlock = some q) X w1 := (Fr.grown hg).mono (fun _ _ h => .inr h)
  have f4 : Fr (fun q => q = w.heap.size + 1 ∨ av.ownBlock = some q) w1 (w1.setCell ⟨w.heap.size + 1, 4, none⟩ av') := (Fr.set _ _ _ _).mono (fun _ _ h => .inl h)
  have f5 : Fr (fun q => q = w.heap.size + 1 ∨ av.ownBlock = some q) W5 (w1.setCell ⟨w.heap.size + 1, 4, none⟩ av') := ((Fr.below hX _).trans f3).trans f4
  have hout : ∀ g, W.heap.size ≤ g → ¬ (g = w.heap.size + 1 ∨ av.ownBlock = some g) := by
    rintro g hg (rfl | h)
    · omega
    · have := (hav _ h).2; omega
  refine FI.next h1 h2 h3 h4 h5 h6 ((Fr.below hB5 _).trans f5) ?_ (own_fr ho (Fr.set w1 (w.heap.size + 1) 4 av') ?_) ((hl.fr f5 ?_).mono (by omega)) (by omega) ((f5.block D (Array.getElem?_eq_some_iff.1 hD').1 (hout D (by omega))).trans hD')
  · simp [World.setCell, Array.getElem?_modify, hblk]
  · rintro g cur _ hgb _ rfl; omega
  · intro g cur _ hgb _; exact hout g (by omega)
theorem Try.infoRanges : (Try.prog.info? 38).map (fun i => (i.zero, i.size, i.bytes)) = some (some (.slice none 0 0), 1, 24) := by kernel_rfl

theorem alloc4 (W : World) (o1 o2 o3 o4 : Obj) : ((((W.alloc o1).alloc o2).alloc o3).alloc o4).heap.size = W.heap.size + 4 ∧ Below W.heap.size W ((((W.alloc o1).alloc o2).alloc o3).alloc o4) ∧
    ((((W.alloc o1).alloc o2).alloc o3).alloc o4).heap[W.heap.size]? = some o1 ∧ ((((W.alloc o1).alloc o2).alloc o3).alloc o4).heap[W.heap.size + 1]? = some o2 ∧ ((((W.alloc o1).alloc o2).alloc o3).alloc o4).heap[W.heap.size + 2]? = some o3 ∧ ((((W.alloc o1).alloc o2).alloc o3).alloc o4).heap[W.heap.size + 3]? = some o4 := by
  have s1 := World.size_alloc W o1
  have s2 := World.size_alloc (W.alloc o1) o2
  have s3 := World.size_alloc ((W.alloc o1).alloc o2) o3
  have s4 := World.size_alloc (((W.alloc o1).alloc o2).alloc o3) o4
  refine ⟨by omega, (((below_alloc W o1).alloc (by omega) o2).alloc (by omega) o3).alloc (by omega) o4, ?_, ?_, ?_, ?_⟩
  · rw [Below.heap_alloc _ _ _ (by omega), Below.heap_alloc _ _ _ (by omega), Below.heap_alloc _ _ _ (by omega)]; exact World.alloc_heap_new W o1
  · rw [Below.heap_alloc _ _ _ (by omega), Below.heap_alloc _ _ _ (by omega), ← s1]; exact World.alloc_heap_new _ o2
  · rw [Below.heap_alloc _ _ _ (by omega), show W.heap.size + 2 = ((W.alloc o1).alloc o2).heap.size from by omega]; exact World.alloc_heap_new _ o3
  · rw [show W.heap.size + 3 = (((W.alloc o1).alloc o2).alloc o3).heap.size from by omega]; exact World.alloc_heap_new _ o4

attribute [local go_sem] Oper.semAt_some
attribute [local go_sem ↓] Go.wp_at_zero Go.wp_at_succ

set_option maxRecDepth 100000 in
set_option maxHeartbeats 4000000 in
theorem file_some (p : Pers) (rv : Value) (a : Option Addr) (cap : Nat) (w : World) (hR : RlsAt w rv p.nr p.R) (hC : RcsAt w (.slice a p.nc cap) p.nc p.C) (hok : p.fault = 0) :
    Calls Try.prog 71 #[.agg #[.int .i64 p.lo, .int .i64 p.hi, rv, .slice a p.nc cap]] w (GivesFile w p) := by
  obtain ⟨n4, n8, n0, _, _, _, _, _, okR, okC⟩ := Pers.ok_facts hok
  have HR := Lib.hid hR; have HC := Lib.hid hC; have OKR := Lib.hid okR; have OKC := Lib.hid okC
  clear hR hC okR okC hok
  have h0 : FI w p rv (.slice a p.nc cap) 0 [] ((w.alloc (.cells #[.int .i64 p.lo, .int .i64 p.hi, rv, .slice a p.nc cap] 45)).alloc (.cells #[.int .i64 p.lo, .int .i64 p.hi, rv, .slice a p.nc cap, .slice none 0 0] 124)) := by
    refine ⟨((Below.refl _ _).alloc (Nat.le_refl _) _).alloc (by simp) _, ?_, trivial, .slice none 0 0, fun _ => .slice none 0 0, ?_, World.ownsRow_nil _ _ _ _, fun j hj => absurd hj (Nat.not_lt_zero _)⟩
    · exact (Below.heap_alloc _ _ _ (by simp)).trans (heap_alloc_new w _)
    · have := heap_alloc_new (w.alloc (.cells #[.int .i64 p.lo, .int .i64 p.hi, rv, .slice a p.nc cap] 45)) (.cells #[.int .i64 p.lo, .int .i64 p.hi, rv, .slice a p.nc cap, .slice none 0 0] 124)
      rw [World.size_alloc] at this; exact this
  have H0 := Lib.hid h0; clear h0
  refine callsIn_wide.1 (callsIn_of_wp_marks (n := 0) Try.func71 rfl trivial ?_ rfl)
  simp only [Try.ntmps71, List.size_toArray, List.length_cons, List.length_nil, Nat.reduceAdd, Nat.reduceSub, Array.replicate_succ, Array.replicate_zero, List.push_toArray, List.append_toArray, List.nil_append, List.cons_append]
  refine wpIn_wide.2 ?_
  go_wp2
  refine wp_loop (fun a' W' => ∃ (k : Nat) (u5 u6 u15 u16 u17 u18 u19 u20 u37 u38 u39 u40 u41 u42 u43 u44 u45 u46 u47 : Value) (ds : List Deferred), (k ≤ p.nc ∧ FI w p rv (.slice a p.nc cap) k ds W') ∧ a' = { tmps := #[.agg #[.int .i64 p.lo, .int .i64 p.hi, rv, .slice a p.nc cap], .pointer (some ⟨w.heap.size, 0, none⟩), .pointer none, .pointer (some ⟨w.heap.size + 1, 0, none⟩), undef, u5, u6, undef, .agg #[.int .i64 p.lo, .int .i64 p.hi, rv, .slice a p.nc cap], .agg #[.int .i64 p.lo, .int .i64 p.hi, rv, .slice a p.nc cap, .slice none 0 0], .pointer (some ⟨w.heap.size + 1, 0, none⟩), .pointer (some ⟨w.heap.size, 3, none⟩), .slice a p.nc cap, .int .i64 p.nc, .int .i64 k, u15, u16, u17, u18, u19, u20, undef, undef, undef, undef, undef, undef, undef, undef, undef, undef, undef, undef, undef, undef, undef, undef, u37, u38, u39, u40, u41, u42, u43, u44, u45, u46, u47, undef], defers := ds }) (fun a' _ => p.nc - (intOf (a'.tmps.getD 14 undef)).toNat) ?start ?round
  case start => exact ⟨0, _, _, _, _, _, _, _, _, _, _, _, _, _, _, _, _, _, _, _, [], ⟨Nat.zero_le _, H0.out⟩, rfl⟩
  case round =>
    clear H0
    rintro _ W ⟨k, u5, u6, u15, u16, u17, u18, u19, u20, u37, u38, u39, u40, u41, u42, u43, u44, u45, u46, u47, ds, ⟨hk, hfi⟩, rfl⟩
    dsimp only
    by_cases hlt : k < p.nc
    · obtain ⟨rd1, rd2, rr1, rr2, rn1, rn2⟩ := Rc.ok_facts (OKC.out k hlt)
      obtain ⟨q, hq⟩ : ∃ q : Nat, (p.C k).rule = (q : Int) := ⟨(p.C k).rule.toNat, by omega⟩
      have hqn : q < p.nr := by omega
      obtain ⟨b, off, rfl, hb, c0, c1, c2⟩ : ∃ b off, a = some ⟨b, off, none⟩ ∧ b < w.heap.size ∧ w.cell? ⟨b, off + k * 3, none⟩ = some (.int .i64 (p.C k).day) ∧ w.cell? ⟨b, off + k * 3 + 1, none⟩ = some (.int .i64 (p.C k).rule) ∧ w.cell? ⟨b, off + k * 3 + 2, none⟩ = some (.int .i64 (p.C k).num) := by
        rcases HC.out with ⟨_, h⟩ | ⟨b, off, cap', e, hb, hz⟩
        · omega
        · cases e; exact ⟨b, off, rfl, hb, hz k hlt⟩
      obtain ⟨rb, ro, rc, rfl, hrb, r0, r1, r2, r3⟩ : ∃ rb ro rc, rv = .slice (some ⟨rb, ro, none⟩) p.nr rc ∧ rb < w.heap.size ∧ w.cell? ⟨rb, ro + q * 4, none⟩ = some (.int .i64 (p.R q).f) ∧ w.cell? ⟨rb, ro + q * 4 + 1, none⟩ = some (.int .i64 (p.R q).b) ∧ w.cell? ⟨rb, ro + q * 4 + 2, none⟩ = some (.int .i64 (p.R q).m) ∧ w.cell? ⟨rb, ro + q * 4 + 3, none⟩ = some (.int .i64 (p.R q).e) := by
        rcases HR.out with ⟨_, h⟩ | ⟨b, off, cap', e, hb, hz⟩
        · omega
        · cases e; exact ⟨b, off, cap', rfl, hb, hz q hqn⟩
      have okq := OKR.out q hqn
      have hrl : p.rl k = p.R q := by unfold Pers.rl; rw [hq]; rfl
      rw [hq] at c1
      have hall : p.allow k = foldR (p.C k).day (yearsL (ageRs (p.R q).f (p.R q).b (p.R q).m (p.R q).e (p.C k).num)) := by unfold Pers.allow; rw [hrl]
      have HALL := Lib.hid hall; clear hall hrl hq
      generalize (p.C k).day = day at *
      generalize (p.C k).num = num at *
      generalize p.R q = rl at *
      have hF := hfi
      obtain ⟨f1, f2, f3, av, svs, f4, f5, f6⟩ := hF
      have d0 : W.cell? ⟨b, off + k * 3, none⟩ = some (.int .i64 day) := (f1.cell (p := ⟨b, _, none⟩) hb).trans c0
      have d1 : W.cell? ⟨b, off + k * 3 + 1, none⟩ = some (.int .i64 (q : Int)) := (f1.cell (p := ⟨b, _, none⟩) hb).trans c1
      have d2 : W.cell? ⟨b, off + k * 3 + 2, none⟩ = some (.int .i64 num) := (f1.cell (p := ⟨b, _, none⟩) hb).trans c2
      have e0 : W.cell? ⟨rb, ro + q * 4, none⟩ = some (.int .i64 rl.f) := (f1.cell (p := ⟨rb, _, none⟩) hrb).trans r0
      have e1 : W.cell? ⟨rb, ro + q * 4 + 1, none⟩ = some (.int .i64 rl.b) := (f1.cell (p := ⟨rb, _, none⟩) hrb).trans r1
      have e2 : W.cell? ⟨rb, ro + q * 4 + 2, none⟩ = some (.int .i64 rl.m) := (f1.cell (p := ⟨rb, _, none⟩) hrb).trans r2
      have e3 : W.cell? ⟨rb, ro + q * 4 + 3, none⟩ = some (.int .i64 rl.e) := (f1.cell (p := ⟨rb, _, none⟩) hrb).trans r3
      have g0 : W.cell? ⟨w.heap.size, 0, none⟩ = some (.int .i64 p.lo) := cell_of_row _ _ 0 _ _ _ f2
      have g1 : W.cell? ⟨w.heap.size, 1, none⟩ = some (.int .i64 p.hi) := cell_of_row _ _ 1 _ _ _ f2
      have g2 : W.cell? ⟨w.heap.size, 2, none⟩ = some (.slice (some ⟨rb, ro, none⟩) p.nr rc) := cell_of_row _ _ 2 _ _ _ f2
      have g3 : W.cell? ⟨w.heap.size, 3, none⟩ = some (.slice (some ⟨b, off, none⟩) p.nc cap) := cell_of_row _ _ 3 _ _ _ f2
      have E0 := Lib.hid e0; have E1 := Lib.hid e1; have E2 := Lib.hid e2; have E3 := Lib.hid e3
      have hs : w.heap.size + 1 < W.heap.size := (Array.getElem?_eq_some_iff.1 f4).1
      have hs0 : w.heap.size < W.heap.size := by omega
      have hs1 : w.heap.size < W.heap.size + 1 := by omega
      have F1 := Lib.hid f1; have F2 := Lib.hid f2; have F3 := Lib.hid f3; have F4 := Lib.hid f4; have F5 := Lib.hid f5; have F6 := Lib.hid f6
      clear c0 c1 c2 r0 r1 r2 r3 f1 f2 f3 f4 f5 f6 e0 e1 e2 e3 hfi
      go_wp2_with (go_at_call 94; refine (years_any _ _ _ _ _ _ _ _).mono ?_; rintro e w' ⟨rfl, rfl⟩)
      obtain ⟨hz, hbl, b1, b2, b3, b4⟩ := alloc4 W (.cells #[.int .i64 day, .int .i64 (q : Int), .int .i64 num] 109) (.cells #[.slice none 0 0] 38) (.cells #[.int .i64 p.lo, .int .i64 p.hi, .slice (some ⟨rb, ro, none⟩) p.nr rc, .slice (some ⟨b, off, none⟩) p.nc cap] 45) (.cells #[.int .i64 day, .int .i64 (q : Int), .int .i64 num] 109)
      generalize ((((W.alloc (.cells #[.int .i64 day, .int .i64 (q : Int), .int .i64 num] 109)).alloc (.cells #[.slice none 0 0] 38)).alloc (.cells #[.int .i64 p.lo, .int .i64 p.hi, .slice (some ⟨rb, ro, none⟩) p.nr rc, .slice (some ⟨b, off, none⟩) p.nc cap] 45)).alloc (.cells #[.int .i64 day, .int .i64 (q : Int), .int .i64 num] 109)) = Wb at *
      have hob : ownB Wb (W.heap.size + 1) = none := ownB_of b2
      have hrbW : rb < W.heap.size := by omega
      have hyears := years_all (W.heap.size + 1) (W.heap.size + 1 + 1) (W.heap.size + 1 + 1 + 1) rb ro p.nr rc q num rl.f rl.b rl.m rl.e Wb (by omega) (fun x hx => by rw [hob] at hx; cases hx)
        (cell_of_row _ _ 2 _ _ _ b3) (cell_of_row _ _ 1 _ _ _ b4) (cell_of_row _ _ 2 _ _ _ b4) (by omega) (by omega) (by omega) hqn
        ((hbl.cell (p := ⟨rb, _, none⟩) hrbW).trans E0.out) ((hbl.cell (p := ⟨rb, _, none⟩) hrbW).trans E1.out) ((hbl.cell (p := ⟨rb, _, none⟩) hrbW).trans E2.out) ((hbl.cell (p := ⟨rb, _, none⟩) hrbW).trans E3.out) okq
      refine wpIn_wide.1 (wide_range (n := 0) (gf := 105) (lb := #[.pointer (some ⟨W.heap.size + 1 + 1, 0, none⟩), .pointer (some ⟨W.heap.size + 1 + 1 + 1, 0, none⟩)]) rfl (enters_of Try.func105 (by kernel_rfl) rfl)
        hyears (fun _ => rfl) Kp.trans (Kp.b (by omega)) (YI (W.heap.size + 1) day Wb) (YI.own _ _ _) ⟨_, b2, World.ownsRow_nil _ _ _ _, Fr.refl _ _⟩
        (fun pre x a' W' => YI (W.heap.size + 1) day Wb pre W' ∧ ∃ Bx, W'.heap[Bx]? = some (.cells #[.int .i64 x.1.1, .int .i64 x.1.2] 41 (0, 0)) ∧ a' = { tmps := #[.agg #[.int .i64 p.lo, .int .i64 p.hi, .slice (some ⟨rb, ro, none⟩) p.nr rc, .slice (some ⟨b, off, none⟩) p.nc cap], .pointer (some ⟨w.heap.size, 0, none⟩), .pointer none, .pointer (some ⟨w.heap.size + 1, 0, none⟩), undef, .pointer (some ⟨W.heap.size, 0, none⟩), .pointer (some ⟨W.heap.size + 1, 0, none⟩), .pointer (some ⟨Bx, 0, none⟩), .agg #[.int .i64 p.lo, .int .i64 p.hi, .slice (some ⟨rb, ro, none⟩) p.nr rc, .slice (some ⟨b, off, none⟩) p.nc cap], .agg #[.int .i64 p.lo, .int .i64 p.hi, .slice (some ⟨rb, ro, none⟩) p.nr rc, .slice (some ⟨b, off, none⟩) p.nc cap, .slice none 0 0], .pointer (some ⟨w.heap.size + 1, 0, none⟩), .pointer (some ⟨w.heap.size, 3, none⟩), .slice (some ⟨b, off, none⟩) p.nc cap, .int .i64 p.nc, .int .i64 k, .bool true, .pointer (some ⟨b, off + k * 3, none⟩), .agg #[.int .i64 day, .int .i64 (q : Int), .int .i64 num], .agg #[.int .i64 p.lo, .int .i64 p.hi, .slice (some ⟨rb, ro, none⟩) p.nr rc, .slice (some ⟨b, off, none⟩) p.nc cap], .agg #[.int .i64 day, .int .i64 (q : Int), .int .i64 num], .func (.func 105) #[] #[.pointer (some ⟨W.heap.size + 1 + 1, 0, none⟩), .pointer (some ⟨W.heap.size + 1 + 1 + 1, 0, none⟩)], .agg #[.int .i64 x.1.1, .int .i64 x.1.2], undef, undef, undef, undef, undef, undef, undef, undef, undef, undef, undef, undef, undef, undef, undef, u37, u38, u39, u40, u41, u42, u43, u44, u45, u46, u47, undef], defers := [] })
        ?hA ?assign ?body ?done)
      case hA =>
        rintro pre x a' s X Y row ⟨hs, Bx, hbx, rfl⟩ hg hr
        refine ⟨YI.own _ _ _ _ X Y row hs hg hr, Bx, ?_, rfl⟩
        rw [hg.block _ (Array.getElem?_eq_some_iff.1 hbx).1 (fun e => by obtain ⟨_, o, ho, hc⟩ := hr _ e.symm; rw [hbx] at ho; cases ho; cases hc)]
        exact hbx
      case assign =>
        rintro l1 pre x W1 hy hlen
        have HY := Lib.hid hy
        have hW1 : W.heap.size + 1 < W1.heap.size := by obtain ⟨_, h, _⟩ := hy; exact (Array.getElem?_eq_some_iff.1 h).1
        clear hy
        simp only [encY]
        gi_wp2
        exact ⟨Kp.alloc hW1 _, KeepsOthers.alloc _ _, OwnFrom.alloc (YI.own _ _ _) _ HY.out, W1.heap.size, heap_alloc_new _ _, rfl⟩
      case body =>
        rintro l1 pre x a' W1 hl ⟨r, hr⟩ ⟨⟨lv, y1, y2, y3⟩, Bx, hbx, rfl⟩ hlen
        obtain ⟨la, lc, rfl⟩ := y2.slice
        have x0 : W1.cell? ⟨Bx, 0, none⟩ = some (.int .i64 x.1.1) := cell_of_row _ _ 0 _ _ _ hbx
        have x1 : W1.cell? ⟨Bx, 1, none⟩ = some (.int .i64 x.1.2) := cell_of_row _ _ 1 _ _ _ hbx
        have z0 : W1.cell? ⟨W.heap.size + 1, 0, none⟩ = some (.slice la (foldR day pre).length lc) := cell_of_row _ _ 0 _ _ _ y1
        have z1 : W1.cell? ⟨W.heap.size, 0, none⟩ = some (.int .i64 day) := cell_of_row _ _ 0 _ _ _ ((y3.block _ (by omega) (by omega)).trans b1)
        have hfold := foldR_facts day rd1 rd2 pre.length pre rfl
        have hW1 := (Array.getElem?_eq_some_iff.1 y1).1
        have hWs := y3.size
        have hx := x.2
        have HX := Lib.hid (fun lo hi => extended_grow Wb.heap.size (.slice la (foldR day pre).length lc) (foldR day pre) lo hi W1 y2 (by omega) hWs (fun r hr => by have := hfold.2 r hr; omega))
        obtain ⟨hx1, hx2, hx3, hx4⟩ := hx
        have hst : ∀ (W2 : World) (v' : Value), RS W2 Wb.heap.size v' (ext (foldR day pre) (day - 365 * x.1.2 - 364) (day - 365 * x.1.1)) → W1.grownBy W2 (Value.slice la (foldR day pre).length lc).ownBlock → (v'.ownBlock = (Value.slice la (foldR day pre).length lc).ownBlock ∨ ∀ k, v'.ownBlock = some k → W1.heap.size ≤ k) → _ := fun W2 v' g1 g2 g3 => YI.step (by omega) y1 y2 y3 g1 g2 g3
        have HST := Lib.hid hst
        have hfz : ∀ W2 : World, W1.grownBy W2 (Value.slice la (foldR day pre).length lc).ownBlock → W2.heap[W.heap.size + 1]? = some (.cells #[.slice la (foldR day pre).length lc] 38 (0, 0)) := fun W2 hg => (hg.block _ hW1 (fun e => by have := (y2.own _ e.symm).1; omega)).trans y1
        have HFZ := Lib.hid hfz
        clear hfz hst y1 y2 y3 hfold hbx
        gi_wp2_with fail
        refine ⟨trivial, rfl, ?_⟩
        refine CallsIn.mono (CallsIn.inRound l1 (callsIn_wide.2 (HX.out _ _))) ?_
        rintro e W2 ⟨v', rfl, g1, g2, g3⟩
        have hgW := g2.size
        have hk2 := HFZ.out W2 g2
        have hc2 : W2.cell? ⟨W.heap.size + 1, 0, none⟩ = some (.slice la (foldR day pre).length lc) := cell_of_row _ _ 0 _ _ _ hk2
        have hfr2 : W2.frozen? ⟨W.heap.size + 1, 0, none⟩ = false := frozen_of_row _ _ 0 _ _ hk2
        have HGS := Lib.hid (HST.out W2 v' g1 g2 g3)
        obtain ⟨la', lc', rfl⟩ := g1.slice
        clear g1 g2 g3 hk2
        gi_wp2
        exact HGS.out
      case done =>
        rintro D xs W5 hD rfl ⟨lv, y1, y2, y3⟩ hK
        obtain ⟨la, lc, hlv⟩ := y2.slice
        generalize hn : (foldR day (yearsL (ageRs rl.f rl.b rl.m rl.e num))).length = nl at hlv
        subst hlv
        obtain ⟨aa, ac, rfl⟩ : ∃ aa ac, av = .slice aa k ac := by
          rcases F5.out.2 with ⟨rfl, rfl⟩ | ⟨g, cap, cur, rfl, _⟩
          · exact ⟨_, _, rfl⟩
          · exact ⟨_, _, rfl⟩
        obtain ⟨i0, hi0, hz0, hz1, hz2⟩ := info_parts Try.infoRanges
        have hB5 : Below W.heap.size W W5 := hbl.trans (y3.low (by omega) (fun q hq e => by omega))
        have hWs := y3.size
        have z4b : W5.heap[w.heap.size + 1]? = some (.cells #[.int .i64 p.lo, .int .i64 p.hi, .slice (some ⟨rb, ro, none⟩) p.nr rc, .slice (some ⟨b, off, none⟩) p.nc cap, .slice aa k ac] 124 (0, 0)) := (hB5.block _ hs).trans F4.out
        have z4 : W5.cell? ⟨w.heap.size + 1, 4, none⟩ = some (.slice aa k ac) := cell_of_row _ _ 4 _ _ _ z4b
        have z4f : W5.frozen? ⟨w.heap.size + 1, 4, none⟩ = false := frozen_of_row _ _ 4 _ _ z4b
        have z0 : W5.cell? ⟨W.heap.size + 1, 0, none⟩ = some (.slice la nl lc) := cell_of_row _ _ 0 _ _ _ y1
        have hav : ∀ q, (Value.slice aa k ac).ownBlock = some q → w.heap.size + 2 ≤ q ∧ q < W.heap.size := fun q hq => by
          rcases F5.out.2 with ⟨e, _⟩ | ⟨g, cap, cur, e, hg, hc, _⟩
          · rw [e] at hq; cases hq
          · rw [e] at hq; cases hq; exact ⟨hg, (Array.getElem?_eq_some_iff.1 hc).1⟩
        have hown : W5.ownsRow (w.heap.size + 2) 38 1 (.slice aa k ac) k ((List.range k).map svs) := own_fr F5.out (Fr.below hB5 (fun _ => False)) (fun _ _ _ _ _ h => h)
        have HOWN := Lib.hid hown
        have HB5 := Lib.hid hB5
        have HAV := Lib.hid hav
        have HZ4 := Lib.hid z4b
        have HY2 := Lib.hid y2
        have HK := Lib.hid hK
        have HY1 := Lib.hid y1
        have hW5 : W.heap.size + 4 ≤ W5.heap.size := by omega
        have hw5a : w.heap.size + 1 < W5.heap.size := by omega
        have hw5b : W.heap.size + 1 < W5.heap.size := by omega
        clear hown hB5 hav z4b y1 y2 y3 hK hn hyears
        go_wp2
        refine wp_calm ?_
        go_region_law
          ((refine step_append_lies _ (by rfl) _ _ _ (by rfl) (w.heap.size + 2) 38 i0 (.slice none 0 0) 1 24 Try.underlying122 hi0 hz0 hz1 hz2 rfl (by omega) (.slice aa k ac) k ((List.range k).map svs) (by rfl) (World.ownsRow.drew (World.ownsRow.alloc HOWN.out _))
             ⟨W5.heap.size, 0, none⟩ 1 1 [.slice la nl lc] (by rfl) (by rfl) (World.news_of_block (cs := #[.slice la nl lc]) (t := 38) (fr := (0, 0)) (heap_alloc_new W5 _)) (by simp [Value.oneCell']) (by omega) (by unfold maxLen; omega) (by omega) (by simp; omega) (W5.heap.size + 1) (by simp) ?_; intro gg cap' w1 hown1 hgrow hat hlt1; have hblk := grown_block hgrow (below_alloc W5 _).drew hw5a (fun q e => by have := HAV.out q e; omega) HZ4.out; have hz4f : w1.frozen? ⟨w.heap.size + 1, 4, none⟩ = false := frozen_of_row _ _ 4 _ _ hblk; have hz4c : w1.cell? ⟨w.heap.size + 1, 4, none⟩ = some (.slice aa k ac) := cell_of_row _ _ 4 _ _ _ hblk))
        all_goals
          have HFI := Lib.hid (FI.appended F1.out F2.out F3.out F4.out F5.out F6.out HB5.out (below_alloc W5 _).drew hgrow HAV.out hblk hown1 (by rw [HALL.out]; exact HY2.out) (by omega) hD HK.out)
          clear hgrow hown1 hblk hz4f hz4c hat hlt1
          go_wp2
          refine ⟨⟨k + 1, _, _, _, _, _, _, _, _, _, _, _, _, _, _, _, _, _, _, _, _, ⟨hlt, HFI.out⟩, rfl⟩, ?_⟩
          simp [intOf]; omega
    · obtain rfl : k = p.nc := by omega
      obtain ⟨h1, h2, h3, av, svs, h4, h5, h6⟩ := hfi
      have HF : Hid (FileAt W (w.heap.size + 1) p ∧ Below w.heap.size w W) := ⟨⟨_, _, _, _, h4, ⟨_, _, rfl⟩, own_mono h5 (Nat.zero_le _), fun j hj => (h6 j hj).mono (Nat.zero_le _)⟩, h1⟩
      have H3 := Lib.hid h3
      clear h1 h2 h3 h4 h5 h6
      go_wp2
      refine leaves_marks (B := w.heap.size + 2) (fun W' => FileAt W' (w.heap.size + 1) p ∧ Below w.heap.size w W') ?_ ?_ ds _ W H3.out HF.out
      · rintro W' l o' ⟨i1, i2⟩ hl hd
        exact ⟨i1.put hd rfl, i2.trans ((Fr.put W' l o').low i2.size (fun q hq e => by omega))⟩
      · rintro W' ⟨i1, i2⟩
        exact ⟨.pointer (some ⟨w.heap.size + 1, 0, none⟩), by simp [results, Try.results71, go_sem], _, rfl, i1, i2⟩
end Go.Proofs.Ytagfcfojfjkmbaa
