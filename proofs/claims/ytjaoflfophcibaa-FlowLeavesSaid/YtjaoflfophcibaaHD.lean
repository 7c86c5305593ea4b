/- Counted: a table with counts round sizes. -/
import Derived.Test.YtjaoflfophcibaaPK
namespace Go.Proofs.Ytjaoflfophcibaa
open Go.RowKit Go.Shelf

theorem RsAt.ownT {T : TypeId} {W : World} {base : Nat} {v : Value} {n : Nat} {R : Nat → R2} (h : W.ownsRow base T 2 v n (flatR R n)) : RsAt W v n R := by
  rcases h.2 with ⟨rfl, rfl⟩ | ⟨g, cap, cur, rfl, _, hg, _⟩
  · exact .inl ⟨rfl, rfl⟩
  · refine .inr ⟨g, 0, cap, rfl, (Array.getElem?_eq_some_iff.1 hg).1, fun j hj => ?_⟩
    obtain ⟨h0, h1⟩ := flatR_get R n j hj
    rw [Nat.zero_add]
    exact ⟨(h.cellAt _ (by omega)).trans h0, (h.cellAt _ (by omega)).trans h1⟩
/-- Own rows in an own row (of the reference's types). -/
def RowsR (base : Nat) (W : World) (v : Value) (k : Nat) (rl : Nat → Nat) (ct : Nat → Nat → R2) (vs : Nat → Value) : Prop :=
  W.ownsRow base 23 1 v k ((List.range k).map vs) ∧ ∀ j, j < k → W.ownsRow base 43 2 (vs j) (rl j) (flatR (ct j) (rl j))
section
variable {base k : Nat} {W X Y : World} {v : Value} {rl : Nat → Nat} {ct : Nat → Nat → R2} {vs : Nat → Value}
theorem RowsR.nil (base : Nat) (W : World) (rl : Nat → Nat) (ct : Nat → Nat → R2) : RowsR base W (.slice none 0 0) 0 rl ct (fun _ => .slice none 0 0) := ⟨World.ownsRow_nil _ _ _ _, fun _ hj => absurd hj (Nat.not_lt_zero _)⟩
theorem RowsR.fr {ex : Nat → Prop} (h : RowsR base W v k rl ct vs) (hf : Fr ex W X) (hx : ∀ b cs T, T ≠ 25 → W.heap[b]? = some (.cells cs T (0, 0)) → ¬ ex b) : RowsR base X v k rl ct vs :=
  ⟨own_fr h.1 hf (fun g _ _ _ hc => hx g _ _ (by decide) hc), fun j hj => own_fr (h.2 j hj) hf (fun g _ _ _ hc => hx g _ _ (by decide) hc)⟩
theorem RowsR.below (h : RowsR base W v k rl ct vs) (hb : Below W.heap.size W X) : RowsR base X v k rl ct vs := h.fr (Fr.below hb (fun _ => False)) (fun _ _ _ _ _ h => h)
theorem RowsR.step {u v1 : Value} (h : RowsR base X v k rl ct vs) (hu : X.ownsRow base 43 2 u (rl k) (flatR (ct k) (rl k)))
    (hown : Y.ownsRow base 23 1 v1 (k + 1) ((List.range k).map vs ++ [u])) (hgr : X.grownBy Y v.ownBlock) :
    RowsR base Y v1 (k + 1) rl ct (fun j => if j = k then u else vs j) := by
  have hne : ∀ g cur, X.heap[g]? = some (.cells cur 43 (0, 0)) → ¬ v.ownBlock = some g := fun g cur hc e => by
    rcases h.1.2 with ⟨rfl, _⟩ | ⟨g', cap, cur', rfl, _, hg, _⟩
    · cases e
    · cases e; rw [hc] at hg; cases hg
  refine ⟨?_, fun j hj => ?_⟩
  · have e : (List.range (k + 1)).map (fun j => if j = k then u else vs j) = (List.range k).map vs ++ [u] := by
      rw [List.range_succ, List.map_append]
      congr 1
      · exact List.map_congr_left (fun j hj => if_neg (by have := List.mem_range.1 hj; omega))
      · simp
    rw [e]; exact hown
  · show Y.ownsRow base 43 2 (if j = k then u else vs j) (rl j) (flatR (ct j) (rl j))
    by_cases e : j = k
    · subst e; rw [if_pos rfl]; exact own_fr hu (Fr.grown hgr) (fun g cur _ _ hc => hne g cur hc)
    · rw [if_neg e]; exact own_fr (h.2 j (by omega)) (Fr.grown hgr) (fun g cur _ _ hc => hne g cur hc)
theorem RowsR.abv (h : RowsR base W v k rl ct vs) (ha : Abv base W X) : RowsR base X v k rl ct vs := ⟨own_abv h.1 ha (Nat.le_refl _), fun j hj => own_abv (h.2 j hj) ha (Nat.le_refl _)⟩
theorem RowsR.rows (h : RowsR base W v k rl ct vs) : RowsAt W v k rl ct := by
  rcases h.1.2 with ⟨rfl, rfl⟩ | ⟨g, cap, cur, rfl, _, hg, _⟩
  · exact .inl ⟨rfl, rfl⟩
  · refine .inr ⟨g, 0, cap, rfl, (Array.getElem?_eq_some_iff.1 hg).1, fun j hj => ⟨vs j, ?_, RsAt.ownT (h.2 j hj)⟩⟩
    rw [Nat.zero_add]
    refine (h.1.cellAt j (by omega)).trans ?_
    rw [List.getElem?_map, List.getElem?_range hj]; rfl
end
def bitB (bits : Int) (i : Nat) : Bool := decide (bits / 2 ^ i % 2 = 1)
/-- A count round a size. -/
def cntR (n w : Int) (bad : Bool) : R2 := (max 0 ((if bad = true then n + (11 + w % 70) else n) - w % 7), (if bad = true then n + (11 + w % 70) else n) + w / 8 % 7)
def cntT (S : Nat → Nat → Int) (nw : Nat) (z : Nat → Int) (bits : Int) (c g : Nat) : R2 := cntR (S c g) (wordF nw z (4 * (c : Int) + (g : Int) + 2)) (bitB bits (4 * c + g))
theorem set4r {X : World} {b : Nat} {a0 a1 a2 a3 : Value} {t : TypeId} (h : X.heap[b]? = some (.cells #[a0, a1, a2, a3] t (0, 0))) (v0 v1 v2 v3 : Value) :
    ((((X.setCell ⟨b, 0, none⟩ v0).setCell ⟨b, 1, none⟩ v1).setCell ⟨b, 2, none⟩ v2).setCell ⟨b, 3, none⟩ v3).heap[b]? = some (.cells #[v0, v1, v2, v3] t (0, 0)) ∧ Fr (fun k => k = b) X ((((X.setCell ⟨b, 0, none⟩ v0).setCell ⟨b, 1, none⟩ v1).setCell ⟨b, 2, none⟩ v2).setCell ⟨b, 3, none⟩ v3) :=
  ⟨by simp [World.setCell, Array.getElem?_modify, h], (((Fr.set X b 0 v0).trans (Fr.set _ b 1 v1)).trans (Fr.set _ b 2 v2)).trans (Fr.set _ b 3 v3)⟩
theorem Try.infoRangesR : (Try.prog.info? 23).map (fun i => (i.zero, i.size, i.bytes)) = some (some (.slice none 0 0), 1, 24) := by kernel_rfl
set_option maxRecDepth 100000 in
set_option maxHeartbeats 8000000 in
theorem rcounted_any (u : WV) (t : Tb) (sv : Value) (S : Nat → Nat → Int) (wv : Value) (nw : Nat) (z : Nat → Int) (bits : Int) (hs : t.small) (ht : Okt t) (w : World) (hl : WLi w u t) (hS : IRows w sv t.nc (fun _ => t.ng) S) (hS2 : ∀ c g, c < t.nc → g < t.ng → 0 ≤ S c g ∧ S c g ≤ 1000000) (hw : WordsIn w wv nw z) (hn : nw ≤ maxLen) (hb0 : 0 ≤ bits) (hb1 : bits ≤ 65535) :
    Calls Try.prog 79 #[.agg #[u.cv t, u.bv t, u.rv t, u.nv t], sv, wv, .int .u16 bits] w fun e w' => ∃ ca cc, e = .returned (.agg #[.slice ca t.nc cc, u.bv t, u.rv t, u.nv t]) ∧ RowsAt w' (.slice ca t.nc cc) t.nc (fun _ => t.ng) (cntT S nw z bits) ∧ Below w.heap.size w w' ∧ ∀ X, Abv w.heap.size w' X → RowsAt X (.slice ca t.nc cc) t.nc (fun _ => t.ng) (cntT S nw z bits) := by
  have HG : Hid (∀ X, Below w.heap.size w X → Calls Try.prog 23 #[.agg #[u.cv t, u.bv t, u.rv t, u.nv t]] X fun e w' => e = .returned (.int .i64 (t.ng : Nat)) ∧ Below X.heap.size X w') := fun X hX => rgroups_any _ t X (hl.below hX).tb hs
  have HWD : Hid (∀ (X : World) (i : Int), Below w.heap.size w X → 0 ≤ i → i ≤ 1000000000 → Calls Try.prog 91 #[wv, .int .i64 i] X fun e w' => e = .returned (.int .i64 (wordF nw z i)) ∧ X = w') := fun X i hX h1 h2 => word_any wv nw z i X (hw.below hX) hn h1 h2
  have HWB : Hid (∀ i, 0 ≤ wordF nw z i ∧ wordF nw z i ≤ 65535) := fun i => wordF_bd hw i
  obtain ⟨i0, hi0, hz0, hz1, hz2⟩ := info_parts Try.infoRangeR
  obtain ⟨i1, hi1, hy0, hy1, hy2⟩ := info_parts Try.infoRangesR
  obtain ⟨wa, wc, rfl⟩ := hw.len
  obtain ⟨sa, sc, rfl⟩ := hS.slice
  have ng2 := ht.ng2; have ng4 := ht.ng4; have nc1 := ht.nc1; have nc4 := ht.nc4
  have HSI := Lib.hid hS; have HS2 := Lib.hid hS2
  clear hs hl hw hn ht hS hS2
  simp only [WV.cv, WV.bv, WV.rv, WV.nv] at HG ⊢
  have HA0 : Hid (BF w (((w.alloc (.cells #[.slice u.ca t.nc u.cc, .slice u.ba t.nb u.bc, .slice u.ra t.nr u.rc, .slice u.na t.nn u.nc] 25)).alloc (.cells #[.slice none 0 0, .slice none 0 0, .slice none 0 0, .slice none 0 0] 25)).alloc (.cells #[.slice none 0 0, .slice u.ba t.nb u.bc, .slice u.ra t.nr u.rc, .slice u.na t.nn u.nc] 25)) [(w.heap.size, #[.slice u.ca t.nc u.cc, .slice u.ba t.nb u.bc, .slice u.ra t.nr u.rc, .slice u.na t.nn u.nc], 25), (w.heap.size + 1, #[.slice none 0 0, .slice none 0 0, .slice none 0 0, .slice none 0 0], 25), (w.heap.size + 2, #[.slice none 0 0, .slice u.ba t.nb u.bc, .slice u.ra t.nr u.rc, .slice u.na t.nn u.nc], 25)]) := BF.made3 w _ _ _ _ _ _
  go_enter Try.func79, Try.ntmps79
  go_wp2_with fail
  go_loopw [10] (fun i wr => ∃ (c : Nat) (v : Value) (vs : Nat → Value), c ≤ t.nc ∧ i = .int .i64 c ∧ BF w wr [(w.heap.size, #[.slice u.ca t.nc u.cc, .slice u.ba t.nb u.bc, .slice u.ra t.nr u.rc, .slice u.na t.nn u.nc], 25), (w.heap.size + 1, #[.slice none 0 0, .slice none 0 0, .slice none 0 0, .slice none 0 0], 25), (w.heap.size + 2, #[v, .slice u.ba t.nb u.bc, .slice u.ra t.nr u.rc, .slice u.na t.nn u.nc], 25)] ∧ RowsR w.heap.size wr v c (fun _ => t.ng) (cntT S nw z bits) vs) (fun i _ => t.nc - (intOf i).toNat)
  case atStart => exact ⟨0, _, _, Nat.zero_le _, rfl, HA0.out, RowsR.nil _ _ _ _⟩
  case round =>
    clear HA0
    obtain ⟨c, v, vs, hc, rfl, hbf, hro⟩ := hrel
    obtain ⟨va, vc, rfl⟩ := own_slice' hro.1
    have HA1 := Lib.hid hbf; have HRO := Lib.hid hro
    clear hbf hro
    have c0 := HA1.out.cell (.head _) 0
    have c1 := HA1.out.cell (.head _) 1
    have c2 := HA1.out.cell (.head _) 2
    have c3 := HA1.out.cell (.head _) 3
    have ki : (0 : Int) ≤ (c : Int) := by omega
    by_cases hlt : c < t.nc
    · have kj : (c : Int) < (t.nc : Int) := by omega
      obtain ⟨so, oo, ra', rc', rfl, hso, hx0, hrow⟩ := HSI.out.at (k := c) hlt
      have HROW := Lib.hid hrow; have HX0 := Lib.hid hx0
      clear hrow hx0
      go_wp2_with fail
      clear c0 c1 c2 c3
      go_loopw [11, 12] (fun rv i wx => ∃ g : Nat, g ≤ t.ng ∧ i = .int .i64 g ∧ Below wr.heap.size wr wx ∧ wx.ownsRow wr.heap.size 43 2 rv g (flatR (cntT S nw z bits c) g)) (fun _ i _ => t.ng - (intOf i).toNat)
      case atStart => exact ⟨0, Nat.zero_le _, rfl, Below.refl _ _, World.ownsRow_nil _ _ _ _⟩
      case round =>
        obtain ⟨g, hg, rfl, hbx, how⟩ := hrel
        rename World => wx
        obtain ⟨ga, gc, rfl⟩ := own_slice' how
        have HBX := Lib.hid hbx; have HOW := Lib.hid how
        clear hbx how
        have HA2 := Lib.hid (HA1.out.below HBX.out)
        have c0 := HA2.out.cell (.head _) 0
        have c1 := HA2.out.cell (.head _) 1
        have c2 := HA2.out.cell (.head _) 2
        have c3 := HA2.out.cell (.head _) 3
        have gi : (0 : Int) ≤ (g : Int) := by omega
        by_cases hlg : g < t.ng
        · have gj : (g : Int) < (t.ng : Int) := by omega
          go_wp2_with (go_at_call 23; refine (HG.out _ HA2.out.fr).mono ?_; rintro _ w5 ⟨rfl, hb5⟩; have HB5 := Lib.hid (below_step HBX.out hb5); have HO5 := Lib.hid (own_below HOW.out hb5); clear hb5)
          clear c0 c1 c2 c3 HA2 HBX HOW
          obtain ⟨bq, oq, rfl, hbq, hxq⟩ := HROW.out.at (k := g) hlg
          obtain ⟨n, HN⟩ : ∃ n, Hid (S c g = n) := ⟨_, rfl⟩
          have hn := HS2.out c g hlt hlg
          rw [HN.out] at hxq hn
          obtain ⟨hn1, hn2⟩ := hn
          obtain ⟨wd, HWV⟩ : ∃ wd, Hid (wordF nw z (4 * (c : Int) + (g : Int) + 2) = wd) := ⟨_, rfl⟩
          have hwd := HWB.out (4 * (c : Int) + (g : Int) + 2)
          rw [HWV.out] at hwd
          obtain ⟨hwd1, hwd2⟩ := hwd
          have HCK : Hid (∀ X, Below w5.heap.size w5 X → X.cell? ⟨so, oo + c, none⟩ = some (.slice (some ⟨bq, oq, none⟩) t.ng rc') ∧ X.cell? ⟨bq, oq + g, none⟩ = some (.int .i64 n)) := fun X hX => ⟨kept ((HA1.out.below HB5.out).below hX).fr hso HX0.out, kept ((HA1.out.below HB5.out).below hX).fr hbq hxq⟩
          have wi1 : IntKind.i64.wrap (4 * (c : Int)) = 4 * (c : Int) := IntWalk.i64_in _ (by omega)
          have wi2 : IntKind.i64.wrap (4 * (c : Int) + (g : Int)) = 4 * (c : Int) + (g : Int) := IntWalk.i64_in _ (by omega)
          have wi3 : IntKind.i64.wrap (4 * (c : Int) + (g : Int) + 2) = 4 * (c : Int) + (g : Int) + 2 := IntWalk.i64_in _ (by omega)
          clear hbq hxq
          have HAX : Hid (Below w5.heap.size w5 w5.drew) := (Below.refl _ _).drew
          go_cut [13, 14] (fun s13 s14 wy => s13 = .int .i64 n ∧ s14 = .int .i64 wd ∧ Below w5.heap.size w5 wy)
          case first =>
            refine wp_region_held_drew (S := fun X => X.cell? ⟨so, oo + c, none⟩ = some (.slice (some ⟨bq, oq, none⟩) t.ng rc') ∧ X.cell? ⟨bq, oq + g, none⟩ = some (.int .i64 n)) (by kernel_rfl) (HCK.out _ HAX.out) (fun hS => ?_)
            generalize w5.drew = X at *
            refine tk [0, 1, 2, 3, 4, 5, 6, 7, 8, 9, 10, 11, 12] ?_
            repeat (refine tkH (oi := ⟨_, _, _, _, _, _⟩) (v := ?_) rfl (by kernel_rfl) (by rfl) (fun _ _ _ h => h) hS ?_ ?_; rotate_left; (· rintro W' ⟨z0, z1⟩; go_simp; try with_reducible rfl); try simp only [Act.put, putA, putZ, putS])
            refine tk0 ?_
            refine wpAnyH_ready (rs := [13]) (by kernel_rfl) (by simp) ?_
            refine AllReadyH.cons (o := ⟨some 43, _, _, _, _, _⟩) rfl (fun K hK => ?_) AllReadyH.nil
            go_simp
            refine (HWD.out X (4 * (c : Int) + (g : Int) + 2) ((HA1.out.below HB5.out).below HAX.out).fr (by omega) (by omega)).mono ?_
            rw [HWV.out]
            rintro _ X0 ⟨rfl, rfl⟩
            (try go_wp2_with fail)
            refine hK.out _ _ (HCK.out X HAX.out) (fun hS => ?_)
            clear hK K
            try simp only [Act.put, putA, putZ, putS]
            refine tk [14, 15] ?_
            repeat (refine tkH (oi := ⟨_, _, _, _, _, _⟩) (v := ?_) rfl (by kernel_rfl) (by rfl) (fun _ _ _ h => h) hS ?_ ?_; rotate_left; (· rintro W' ⟨z0, z1⟩; go_simp; try with_reducible rfl); try simp only [Act.put, putA, putZ, putS])
            refine tk0 ?_
            refine wpAnyH_done (by kernel_rfl) ?_ _
            go_wp2_with fail
            go_meet
            exact ⟨rfl, rfl, HAX.out⟩
          case rest =>
            rename World => wy
            obtain ⟨rfl, rfl, hby⟩ := hcut
            have HBY := Lib.hid (below_step HB5.out hby); have HOY := Lib.hid (own_below HO5.out hby)
            clear hby HB5 HO5 HCK HAX
            have hq0 : 0 ≤ bits / 2 ^ (4 * c + g) := Int.ediv_nonneg hb0 (Int.pow_nonneg (by omega))
            have hq1 : bits / 2 ^ (4 * c + g) ≤ 65535 := Int.le_trans (Int.ediv_le_self _ hb0) hb1
            have ksh : (4 * (c : Int) + (g : Int)).toNat = 4 * c + g := by omega
            have HCT : Hid (flatR (cntT S nw z bits c) (g + 1) = flatR (cntT S nw z bits c) g ++ [.int .i64 (cntR n wd (bitB bits (4 * c + g))).1, .int .i64 (cntR n wd (bitB bits (4 * c + g))).2]) := by unfold Hid; rw [flatR_succ]; unfold cntT; rw [HN.out, HWV.out]
            cases hbit : bitB bits (4 * c + g)
            ·
              have ht : (bits / 2 ^ (4 * c + g) % 2 == 1) = false := by
                unfold bitB at hbit
                exact beq_eq_false_iff_ne.2 (of_decide_eq_false hbit)
              have HCV : Hid (cntR n wd false = (max 0 (n - wd % 7), n + wd / 8 % 7)) := by unfold Hid cntR; simp only [Bool.false_eq_true, if_false]
              rw [hbit, HCV.out] at HCT
              simp only at HCT
              have wb1 : IntKind.i64.wrap (n - wd % 7) = n - wd % 7 := IntWalk.i64_in _ (by omega)
              have wb2 : IntKind.i64.wrap (n + wd / 8 % 7) = n + wd / 8 % 7 := IntWalk.i64_in _ (by omega)
              clear hbit
              by_cases hm : wd % 7 < n
              ·
                have hlo : max 0 (n - wd % 7) = n - wd % 7 := by omega
                rw [hlo] at HCT
                clear hlo
                go_wp2_with (at_builtin; refine wpList_append_src _ rfl (.tmp 58) (.tmp 70) 23 rfl wr.heap.size 43 i0 (.agg #[.int .i64 0, .int .i64 0]) 2 16 Try.underlying23 hi0 hz0 hz1 hz2 rfl (by decide) (.slice ga g gc) g (flatR (cntT S nw z bits c) g) rfl (HOY.out.alloc (.cells #[.int .i64 (n - wd % 7), .int .i64 (n + wd / 8 % 7)] 43)) (some ⟨wy.heap.size, 0, none⟩) 1 1 [.int .i64 (n - wd % 7), .int .i64 (n + wd / 8 % 7)] rfl ⟨rfl, fun j u hu => ⟨_, rfl, World.news_of_block (heap_alloc_new wy _) j u hu⟩⟩ (by simp [Value.oneCell']) ?a1 ?a2 ?a3 ?_)
                case a1 => unfold maxLen; omega
                case a2 => omega
                case a3 => have := HBY.out.size; simp; omega
                intro v1 w9 hown hgr hlt1
                have HB9 : Hid (Below wr.heap.size wr w9) := (below_step HBY.out (below_alloc wy (.cells #[.int .i64 (n - wd % 7), .int .i64 (n + wd / 8 % 7)] 43))).trans ((Fr.grown hgr).low (by have := HBY.out.size; simp; omega) (fun q hq e => by have := (HOY.out.lt q e).1; omega))
                obtain ⟨xa, xc, rfl⟩ := own_slice' hown
                have HO9 := Lib.hid hown
                clear hown hgr hlt1
                go_wp2_with fail
                go_roundw
                case rel => exact ⟨g + 1, by omega, by go_num, HB9.out, by rw [HCT.out]; exact HO9.out⟩
                case measure => simp [intOf]; omega
              ·
                have hlo : max 0 (n - wd % 7) = 0 := by omega
                rw [hlo] at HCT
                clear hlo
                go_wp2_with (at_builtin; refine wpList_append_src _ rfl (.tmp 58) (.tmp 70) 23 rfl wr.heap.size 43 i0 (.agg #[.int .i64 0, .int .i64 0]) 2 16 Try.underlying23 hi0 hz0 hz1 hz2 rfl (by decide) (.slice ga g gc) g (flatR (cntT S nw z bits c) g) rfl (HOY.out.alloc (.cells #[.int .i64 (0), .int .i64 (n + wd / 8 % 7)] 43)) (some ⟨wy.heap.size, 0, none⟩) 1 1 [.int .i64 (0), .int .i64 (n + wd / 8 % 7)] rfl ⟨rfl, fun j u hu => ⟨_, rfl, World.news_of_block (heap_alloc_new wy _) j u hu⟩⟩ (by simp [Value.oneCell']) ?a1 ?a2 ?a3 ?_)
                case a1 => unfold maxLen; omega
                case a2 => omega
                case a3 => have := HBY.out.size; simp; omega
                intro v1 w9 hown hgr hlt1
                have HB9 : Hid (Below wr.heap.size wr w9) := (below_step HBY.out (below_alloc wy (.cells #[.int .i64 (0), .int .i64 (n + wd / 8 % 7)] 43))).trans ((Fr.grown hgr).low (by have := HBY.out.size; simp; omega) (fun q hq e => by have := (HOY.out.lt q e).1; omega))
                obtain ⟨xa, xc, rfl⟩ := own_slice' hown
                have HO9 := Lib.hid hown
                clear hown hgr hlt1
                go_wp2_with fail
                go_roundw
                case rel => exact ⟨g + 1, by omega, by go_num, HB9.out, by rw [HCT.out]; exact HO9.out⟩
                case measure => simp [intOf]; omega
            ·
              have ht : (bits / 2 ^ (4 * c + g) % 2 == 1) = true := by
                unfold bitB at hbit
                exact beq_iff_eq.2 (of_decide_eq_true hbit)
              have HCV : Hid (cntR n wd true = (max 0 (n + (11 + wd % 70) - wd % 7), n + (11 + wd % 70) + wd / 8 % 7)) := by unfold Hid cntR; simp only [if_true]
              rw [hbit, HCV.out] at HCT
              simp only at HCT
              have wa1 : IntKind.i64.wrap (11 + wd % 70) = 11 + wd % 70 := IntWalk.i64_in _ (by omega)
              have wa2 : IntKind.i64.wrap (n + (11 + wd % 70)) = n + (11 + wd % 70) := IntWalk.i64_in _ (by omega)
              have wb1 : IntKind.i64.wrap (n + (11 + wd % 70) - wd % 7) = n + (11 + wd % 70) - wd % 7 := IntWalk.i64_in _ (by omega)
              have wb2 : IntKind.i64.wrap (n + (11 + wd % 70) + wd / 8 % 7) = n + (11 + wd % 70) + wd / 8 % 7 := IntWalk.i64_in _ (by omega)
              clear hbit
              have hlo : max 0 (n + (11 + wd % 70) - wd % 7) = n + (11 + wd % 70) - wd % 7 := by omega
              rw [hlo] at HCT
              clear hlo
              go_wp2_with (at_builtin; refine wpList_append_src _ rfl (.tmp 58) (.tmp 70) 23 rfl wr.heap.size 43 i0 (.agg #[.int .i64 0, .int .i64 0]) 2 16 Try.underlying23 hi0 hz0 hz1 hz2 rfl (by decide) (.slice ga g gc) g (flatR (cntT S nw z bits c) g) rfl (HOY.out.alloc (.cells #[.int .i64 (n + (11 + wd % 70) - wd % 7), .int .i64 (n + (11 + wd % 70) + wd / 8 % 7)] 43)) (some ⟨wy.heap.size, 0, none⟩) 1 1 [.int .i64 (n + (11 + wd % 70) - wd % 7), .int .i64 (n + (11 + wd % 70) + wd / 8 % 7)] rfl ⟨rfl, fun j u hu => ⟨_, rfl, World.news_of_block (heap_alloc_new wy _) j u hu⟩⟩ (by simp [Value.oneCell']) ?a1 ?a2 ?a3 ?_)
              case a1 => unfold maxLen; omega
              case a2 => omega
              case a3 => have := HBY.out.size; simp; omega
              intro v1 w9 hown hgr hlt1
              have HB9 : Hid (Below wr.heap.size wr w9) := (below_step HBY.out (below_alloc wy (.cells #[.int .i64 (n + (11 + wd % 70) - wd % 7), .int .i64 (n + (11 + wd % 70) + wd / 8 % 7)] 43))).trans ((Fr.grown hgr).low (by have := HBY.out.size; simp; omega) (fun q hq e => by have := (HOY.out.lt q e).1; omega))
              obtain ⟨xa, xc, rfl⟩ := own_slice' hown
              have HO9 := Lib.hid hown
              clear hown hgr hlt1
              go_wp2_with fail
              go_roundw
              case rel => exact ⟨g + 1, by omega, by go_num, HB9.out, by rw [HCT.out]; exact HO9.out⟩
              case measure => simp [intOf]; omega
        · obtain rfl : g = t.ng := by omega
          go_wp2_with (first | (go_at_call 23; refine (HG.out _ HA2.out.fr).mono ?_; rintro _ w5 ⟨rfl, hb5⟩; have HB5 := Lib.hid (below_step HBX.out hb5); have HO5 := Lib.hid (own_below HOW.out hb5); have x0 := (HA1.out.below HB5.out).cell (.tail _ (.tail _ (.head _))) 0; clear hb5) | (at_builtin; refine wpList_append_src _ rfl (.tmp 73) (.tmp 75) 22 rfl w.heap.size 23 i1 (.slice none 0 0) 1 24 Try.underlying22 hi1 hy0 hy1 hy2 rfl (by decide) (.slice va c vc) c ((List.range c).map vs) rfl ((own_below HRO.out.1 HB5.out).alloc (.cells #[.slice ga t.ng gc] 23)) (some ⟨w5.heap.size, 0, none⟩) 1 1 [.slice ga t.ng gc] rfl ⟨rfl, fun j u hu => ⟨_, rfl, World.news_of_block (heap_alloc_new w5 _) j u hu⟩⟩ (by simp [Value.oneCell']) ?a1 ?a2 ?a3 ?_))
          case a1 => unfold maxLen; omega
          case a2 => omega
          case a3 => have := HB5.out.size; have := HA1.out.fr.size; simp; omega
          intro v1 w9 hown hgr hlt1
          have hba := below_step HB5.out (below_alloc w5 (.cells #[.slice ga t.ng gc] 23))
          have hBF := HA1.out.below hba
          have hRR := HRO.out.below hba
          have hne : ∀ b cs T, T ≠ 23 → (w5.alloc (.cells #[.slice ga t.ng gc] 23)).heap[b]? = some (.cells cs T (0, 0)) → ¬ (Value.slice va c vc).ownBlock = some b := fun b cs T hT hb => own_type_ne hRR.1 hb hT
          have HA9 : Hid (BF w w9 [(w.heap.size, #[.slice u.ca t.nc u.cc, .slice u.ba t.nb u.bc, .slice u.ra t.nr u.rc, .slice u.na t.nn u.nc], 25), (w.heap.size + 1, #[.slice none 0 0, .slice none 0 0, .slice none 0 0, .slice none 0 0], 25), (w.heap.size + 2, #[.slice va c vc, .slice u.ba t.nb u.bc, .slice u.ra t.nr u.rc, .slice u.na t.nn u.nc], 25)]) := hBF.fro (Fr.grown hgr) (fun q hq e => by have := (hRR.1.lt q e).1; omega) (List.forall_mem_cons.2 ⟨hne _ _ _ (by decide) (hBF.bk _ _ _ (.head _)).2, List.forall_mem_cons.2 ⟨hne _ _ _ (by decide) (hBF.bk _ _ _ (.tail _ (.head _))).2, List.forall_mem_cons.2 ⟨hne _ _ _ (by decide) (hBF.bk _ _ _ (.tail _ (.tail _ (.head _)))).2, List.forall_mem_nil _⟩⟩⟩)
          have hu : (w5.alloc (.cells #[.slice ga t.ng gc] 23)).ownsRow w.heap.size 43 2 (.slice ga t.ng gc) t.ng (flatR (cntT S nw z bits c) t.ng) := own_mono (HO5.out.alloc _) HA1.out.fr.size
          have HR9 := Lib.hid (hRR.step hu hown hgr)
          obtain ⟨xa, xc, rfl⟩ := own_slice' hown
          clear hown hgr hlt1 hba hBF hRR hne hu HB5 HO5 HA1 HRO HA2 HBX HOW c0 c1 c2 c3
          have e0 : w9.cell? ⟨w.heap.size + 1 + 1, 0, none⟩ = some (.slice va c vc) := HA9.out.cell (.tail _ (.tail _ (.head _))) 0
          have f0 : w9.frozen? ⟨w.heap.size + 1 + 1, 0, none⟩ = false := HA9.out.thaw (.tail _ (.tail _ (.head _))) 0
          go_wp2_with fail
          have hset := BF.set1 (i := 0) (cs' := #[.slice xa (c + 1) xc, .slice u.ba t.nb u.bc, .slice u.ra t.nr u.rc, .slice u.na t.nn u.nc]) HA9.out (.tail _ (.tail _ (.head _))) (.slice xa (c + 1) xc) (by simp) rfl (L' := [(w.heap.size, #[.slice u.ca t.nc u.cc, .slice u.ba t.nb u.bc, .slice u.ra t.nr u.rc, .slice u.na t.nn u.nc], 25), (w.heap.size + 1, #[.slice none 0 0, .slice none 0 0, .slice none 0 0, .slice none 0 0], 25)]) (List.forall_mem_cons.2 ⟨⟨show w.heap.size ≠ w.heap.size + 2 by omega, .head _⟩, List.forall_mem_cons.2 ⟨⟨show w.heap.size + 1 ≠ w.heap.size + 2 by omega, .tail _ (.head _)⟩, List.forall_mem_nil _⟩⟩)
          have hx : ∀ b cs T, T ≠ 25 → w9.heap[b]? = some (.cells cs T (0, 0)) → ¬ b = w.heap.size + 2 := fun b cs T hT hb e => by subst e; rw [(HA9.out.bk _ _ _ (.tail _ (.tail _ (.head _)))).2] at hb; cases hb; exact hT rfl
          have HRN := Lib.hid (HR9.out.fr (Fr.set w9 (w.heap.size + 2) 0 (.slice xa (c + 1) xc)) hx)
          have HAN := Lib.hid (hset.sub (List.forall_mem_cons.2 ⟨.tail _ (.head _), List.forall_mem_cons.2 ⟨.tail _ (.tail _ (.head _)), List.forall_mem_cons.2 ⟨.head _, List.forall_mem_nil _⟩⟩⟩))
          clear hset hx
          go_roundw
          case rel => exact ⟨c + 1, _, _, by omega, by go_num, HAN.out, HRN.out⟩
          case measure => simp [intOf]; omega
    · obtain rfl : c = t.nc := by omega
      have d0 : wr.cell? ⟨w.heap.size + 1 + 1, 0, none⟩ = some (.slice va t.nc vc) := HA1.out.cell (.tail _ (.tail _ (.head _))) 0
      have d1 : wr.cell? ⟨w.heap.size + 1 + 1, 1, none⟩ = some (.slice u.ba t.nb u.bc) := HA1.out.cell (.tail _ (.tail _ (.head _))) 1
      have d2 : wr.cell? ⟨w.heap.size + 1 + 1, 2, none⟩ = some (.slice u.ra t.nr u.rc) := HA1.out.cell (.tail _ (.tail _ (.head _))) 2
      have d3 : wr.cell? ⟨w.heap.size + 1 + 1, 3, none⟩ = some (.slice u.na t.nn u.nc) := HA1.out.cell (.tail _ (.tail _ (.head _))) 3
      have r0 := HA1.out.cell (.tail _ (.head _)) 0
      have r1 := HA1.out.cell (.tail _ (.head _)) 1
      have r2 := HA1.out.cell (.tail _ (.head _)) 2
      have r3 := HA1.out.cell (.tail _ (.head _)) 3
      have f0 := HA1.out.thaw (.tail _ (.head _)) 0
      have f1 := HA1.out.thaw (.tail _ (.head _)) 1
      have f2 := HA1.out.thaw (.tail _ (.head _)) 2
      have f3 := HA1.out.thaw (.tail _ (.head _)) 3
      go_wp2_with fail
      obtain ⟨hk, hF⟩ := set4r (HA1.out.bk _ _ _ (.tail _ (.head _))).2 (.slice va t.nc vc) (.slice u.ba t.nb u.bc) (.slice u.ra t.nr u.rc) (.slice u.na t.nn u.nc)
      have z0 := cell_of_row _ _ 0 _ _ _ hk
      have z1 := cell_of_row _ _ 1 _ _ _ hk
      have z2 := cell_of_row _ _ 2 _ _ _ hk
      have z3 := cell_of_row _ _ 3 _ _ _ hk
      have hx : ∀ b cs T, T ≠ 25 → wr.heap[b]? = some (.cells cs T (0, 0)) → ¬ b = w.heap.size + 1 := fun b cs T hT hb e => by subst e; rw [(HA1.out.bk _ _ _ (.tail _ (.head _))).2] at hb; cases hb; exact hT rfl
      refine bodyPost_ret (v := .agg #[.slice va t.nc vc, .slice u.ba t.nb u.bc, .slice u.ra t.nr u.rc, .slice u.na t.nn u.nc]) (by simp [results, Try.results79, go_sem, z0, z1, z2, z3]) rfl ⟨va, vc, rfl, (HRO.out.fr hF hx).rows, HA1.out.fr.trans (hF.low HA1.out.fr.size (fun q hq e => by omega)), fun X hX => ((HRO.out.fr hF hx).abv hX).rows⟩
end Go.Proofs.Ytjaoflfophcibaa
