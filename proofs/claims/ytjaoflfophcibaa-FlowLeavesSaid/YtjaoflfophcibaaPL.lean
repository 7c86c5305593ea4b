/- Thin of any table; lives. | lives: a truth, its sizes, and a table that is counted round them. | What a law is handed, opened: a table of the reference, a range, words. -/
import Derived.Test.YtjaoflfophcibaaHC
import Derived.Test.YtjaoflfophcibaaHD
import Derived.Deep.Slices
import Derived.Deep.Strs
import Derived.Lib.SmallJoins
namespace Go.Proofs.Ytjaoflfophcibaa
open Go.RowKit Go.Shelf

/-- What any table of a law's has. -/
def Tb.big (t : Tb) : Prop := t.nc ≤ maxLen ∧ (∀ c, t.rl c ≤ maxLen) ∧ t.nb ≤ maxLen ∧ t.nr ≤ maxLen ∧ t.nn ≤ maxLen
theorem Tb.thin_small {t : Tb} (h : t.thin = true) (h0 : ∀ c, t.nc ≤ c → t.rl c = 0) : t.small := by
  unfold Tb.thin at h
  simp only [Bool.and_eq_true, decide_eq_true_eq, allB, List.all_eq_true, List.mem_range] at h
  obtain ⟨h1, ⟨⟨h2, h3⟩, h4⟩, h5⟩ := h
  refine ⟨by omega, fun c => ?_, by omega, by omega, by omega⟩
  by_cases hc : c < t.nc
  · have := h1 c (by omega); omega
  · rw [h0 c (by omega)]; omega
set_option maxRecDepth 100000 in
set_option maxHeartbeats 4000000 in
theorem thin_big (x : WV) (t : Tb) (hs : t.big) (w : World) (hl : WLi w x t) :
    Calls Try.prog 17 #[.agg #[x.cv t, x.bv t, x.rv t, x.nv t]] w fun e w' => e = .returned (.bool t.thin) ∧ Below w.heap.size w w' := by
  obtain ⟨hs1, hs2, hs3, hs4, hs5⟩ := hs
  unfold maxLen at hs1 hs2 hs3 hs4 hs5
  have HS2 := Lib.hid hs2
  have HRC := Lib.hid hl.1
  clear hl hs2
  simp only [WV.cv, WV.bv, WV.rv, WV.nv] at HRC ⊢
  have HA0 : Hid (BF w (w.alloc (.cells #[.slice x.ca t.nc x.cc, .slice x.ba t.nb x.bc, .slice x.ra t.nr x.rc, .slice x.na t.nn x.nc] 25)) [(w.heap.size, #[.slice x.ca t.nc x.cc, .slice x.ba t.nb x.bc, .slice x.ra t.nr x.rc, .slice x.na t.nn x.nc], 25)]) := (BF.base w).alloc _ _
  go_enter Try.func17, Try.ntmps17
  go_wp2_with fail
  go_loopw [3] (fun i wr => ∃ k : Nat, k ≤ min t.nc 8 ∧ i = .int .i64 k ∧ (∀ q, q < k → decide (t.rl q ≤ 7) = true) ∧ BF w wr [(w.heap.size, #[.slice x.ca t.nc x.cc, .slice x.ba t.nb x.bc, .slice x.ra t.nr x.rc, .slice x.na t.nn x.nc], 25)]) (fun i _ => t.nc - (intOf i).toNat)
  case atStart => exact ⟨0, Nat.zero_le _, rfl, fun q h => absurd h (Nat.not_lt_zero _), HA0.out⟩
  case round =>
    clear HA0
    obtain ⟨k, hk, rfl, hall, hbf⟩ := hrel
    have HALL := Lib.hid hall; have HA0 := Lib.hid hbf
    clear hall hbf
    have c0 := HA0.out.cell (.head _) 0
    have c1 := HA0.out.cell (.head _) 1
    have c2 := HA0.out.cell (.head _) 2
    have c3 := HA0.out.cell (.head _) 3
    have ki : (0 : Int) ≤ (k : Int) := by omega
    by_cases hlt : k < t.nc
    · have kj : (k : Int) < (t.nc : Int) := by omega
      by_cases h8 : k < 8
      · obtain ⟨bc, oc, ra, rc, hca, hbc, hx, hrow⟩ := HRC.out.at hlt
        rw [hca] at c0
        have y0 := kept HA0.out.fr hbc hx
        have hrl := HS2.out k
        clear hrow hx hca
        by_cases h7 : t.rl k ≤ 7
        · go_wp2_with fail
          go_roundw
          case rel => exact ⟨k + 1, by omega, by go_num, fun q hq => by rcases Nat.lt_succ_iff_lt_or_eq.1 hq with h | rfl; exact HALL.out q h; exact decide_eq_true h7, HA0.out⟩
          case measure => simp [intOf]; omega
        · go_wp2_with fail
          go_ret
          exact ⟨ret_bool (by unfold Tb.thin; rw [allB_false (k := k) (by omega) (decide_eq_false h7)]; rfl), HA0.out.fr⟩
      · have h9 : ¬ t.nc ≤ 7 := by omega
        have HE : Hid (t.thin = false) := by unfold Hid Tb.thin; rw [decide_eq_false h9]; simp
        go_wp2_with fail
        go_ret
        exact ⟨ret_bool HE.out.symm, HA0.out.fr⟩
    · have HE : Hid (t.thin = (decide (t.nc ≤ 7) && decide (t.nb ≤ 7) && decide (t.nr ≤ 7) && decide (t.nn ≤ 7))) := by unfold Hid Tb.thin; rw [allB_true (fun q hq => HALL.out q (by omega))]; rfl
      have kj : ¬ (k : Int) < (t.nc : Int) := by omega
      by_cases e1 : t.nc ≤ 7
      · by_cases e2 : t.nb ≤ 7
        · by_cases e3 : t.nr ≤ 7
          · by_cases e4 : t.nn ≤ 7
            all_goals
              go_wp2_with fail
              go_ret
              exact ⟨ret_bool (by rw [HE.out]; simp [e1, e2, e3, e4]; omega), HA0.out.fr⟩
          · go_wp2_with fail
            go_ret
            exact ⟨ret_bool (by rw [HE.out]; simp [e1, e2, e3]), HA0.out.fr⟩
        · go_wp2_with fail
          go_ret
          exact ⟨ret_bool (by rw [HE.out]; simp [e1, e2]), HA0.out.fr⟩
      · go_wp2_with fail
        go_ret
        exact ⟨ret_bool (by rw [HE.out]; simp [e1]), HA0.out.fr⟩
end Go.Proofs.Ytjaoflfophcibaa

namespace Go.Proofs.Ytjaoflfophcibaa
open Go.RowKit Go.Shelf

theorem BF.set4 {w X : World} {L : List (Nat × Array Value × TypeId)} {b : Nat} {a0 a1 a2 a3 : Value} {T : TypeId} (h : BF w X L) (hb : (b, #[a0, a1, a2, a3], T) ∈ L) (v0 v1 v2 v3 : Value) {L' : List (Nat × Array Value × TypeId)} (hl : ∀ y, y ∈ L' → y.1 ≠ b ∧ y ∈ L) :
    BF w ((((X.setCell ⟨b, 0, none⟩ v0).setCell ⟨b, 1, none⟩ v1).setCell ⟨b, 2, none⟩ v2).setCell ⟨b, 3, none⟩ v3) ((b, #[v0, v1, v2, v3], T) :: L') := by
  have h1 := BF.set1 (i := 0) (cs' := #[v0, a1, a2, a3]) h hb v0 (by simp) rfl hl
  have h2 := BF.set1 (i := 1) (cs' := #[v0, v1, a2, a3]) h1 (.head _) v1 (by simp) rfl (fun y hy => ⟨(hl y hy).1, .tail _ hy⟩)
  have h3 := BF.set1 (i := 2) (cs' := #[v0, v1, v2, a3]) h2 (.head _) v2 (by simp) rfl (fun y hy => ⟨(hl y hy).1, .tail _ hy⟩)
  exact BF.set1 (i := 3) (cs' := #[v0, v1, v2, v3]) h3 (.head _) v3 (by simp) rfl (fun y hy => ⟨(hl y hy).1, .tail _ hy⟩)
theorem BF.size3 {w X : World} {c0 c1 c2 : Array Value} {T0 T1 T2 : TypeId} (h : BF w X [(w.heap.size, c0, T0), (w.heap.size + 1, c1, T1), (w.heap.size + 2, c2, T2)]) : w.heap.size + 3 ≤ X.heap.size := (h.lt (.tail _ (.tail _ (.head _)))).2
/-- The table that is counted round sizes. -/
def Tb.cnted (t : Tb) (x : Tr) (nw : Nat) (z : Nat → Int) (bits : Int) : Tb := { t with rl := fun c => if c < t.nc then t.ng else 0, ct := cntT (siz t.ng x) nw z bits }
/-- Four slices. -/
structure SV where
  p0 : Option Addr
  l0 : Nat
  c0 : Nat
  p1 : Option Addr
  l1 : Nat
  c1 : Nat
  p2 : Option Addr
  l2 : Nat
  c2 : Nat
  p3 : Option Addr
  l3 : Nat
  c3 : Nat
/-- What lives gives where a statement can use it. -/
structure LvR (W : World) (t : Tb) (nw : Nat) (z : Nat → Int) (bits : Int) (T1 T2 T3 : Value) : Prop where
  ft : t.fault = 0
  th : t.thin = true
  ex : ∃ (u : WV) (y : XV) (x : Tr) (sa : Option Addr) (sc : Nat), T1 = .agg #[u.cv (t.cnted x nw z bits), u.bv (t.cnted x nw z bits), u.rv (t.cnted x nw z bits), u.nv (t.cnted x nw z bits)] ∧ T2 = .agg #[.slice y.fa x.nf y.fc, .slice y.ba x.nb y.bc, .slice y.da x.nd y.dc, .slice y.ma x.nm y.mc] ∧ T3 = .slice sa t.nc sc ∧
    WLi W u (t.cnted x nw z bits) ∧ XL W y x ∧ IRows W (.slice sa t.nc sc) t.nc (fun _ => t.ng) (siz t.ng x) ∧ (t.cnted x nw z bits).fault = 0 ∧ Gt t x t.nb ∧ x.nb = t.nb ∧ x.nd = t.nb ∧ x.nm = t.nb ∧ canC t x t.nb = true
theorem play_full {t : Tb} {x : Tr} (ht : Okt t) (hg : Gt t x t.nb) (hb : x.nb = t.nb) (hd : x.nd = t.nb) (hm : x.nm = t.nb) : PlayOk t x := by
  have h1 := ht.ng2; have h2 := ht.ng4; have h3 := ht.nb; have h4 := ht.nc4
  exact ⟨by omega, by omega, by omega, by rw [ht.nr]; omega, hg.nf, by omega, by omega, by omega, hg.dl, hg.ml, by omega, by omega, by omega⟩
theorem fr4 (X : World) (b : Nat) (v0 v1 v2 v3 : Value) : Fr (fun k => k = b) X ((((X.setCell ⟨b, 0, none⟩ v0).setCell ⟨b, 1, none⟩ v1).setCell ⟨b, 2, none⟩ v2).setCell ⟨b, 3, none⟩ v3) := (((Fr.set X b 0 v0).trans (Fr.set _ b 1 v1)).trans (Fr.set _ b 2 v2)).trans (Fr.set _ b 3 v3)
theorem RowsAt.congr {w : World} {sv : Value} {n : Nat} {rl rl' : Nat → Nat} {ct : Nat → Nat → R2} (h : RowsAt w sv n rl ct) (he : ∀ j, j < n → rl' j = rl j) : RowsAt w sv n rl' ct := by
  rcases h with h | ⟨b, off, cap, rfl, hb, hz⟩
  · exact .inl h
  · refine .inr ⟨b, off, cap, rfl, hb, fun j hj => ?_⟩
    obtain ⟨rv, h0, h1⟩ := hz j hj
    exact ⟨rv, h0, by rw [he j hj]; exact h1⟩
theorem cnted_small {t : Tb} (ht : Okt t) (x : Tr) (nw : Nat) (z : Nat → Int) (bits : Int) : (t.cnted x nw z bits).small := by
  have h1 := ht.nc4; have h2 := ht.nb; have h3 := ht.nr; have h4 := ht.nn; have h5 := ht.ng4
  refine ⟨by show t.nc ≤ 100000; omega, fun c => ?_, by show t.nb ≤ 100000; omega, by show t.nr ≤ 100000; omega, by show t.nn ≤ 100000; omega⟩
  show (if c < t.nc then t.ng else 0) ≤ 100000
  split <;> omega
theorem cnted_wli {W : World} {u : WV} {t : Tb} {x : Tr} {nw : Nat} {z : Nat → Int} {bits : Int} {ca : Option Addr} {cc : Nat} (hr : RowsAt W (.slice ca t.nc cc) t.nc (fun _ => t.ng) (cntT (siz t.ng x) nw z bits)) (hl : WLi W u t) : WLi W { u with ca := ca, cc := cc } (t.cnted x nw z bits) :=
  ⟨(hr.congr (rl' := (t.cnted x nw z bits).rl) (fun _ hj => if_pos hj)).toIn, hl.2.1, hl.2.2.1, hl.2.2.2⟩
set_option maxRecDepth 100000 in
set_option maxHeartbeats 8000000 in
theorem lives_any (u : WV) (t : Tb) (wv : Value) (nw : Nat) (z : Nat → Int) (bits : Int) (hs : t.big) (h0 : ∀ c, t.nc ≤ c → t.rl c = 0) (w : World) (hl : WLi w u t) (hcc : t.nc ≤ u.cc) (hcb : t.nb ≤ u.bc) (hw : WordsIn w wv nw z) (hn : nw ≤ maxLen) (hb0 : 0 ≤ bits) (hb1 : bits ≤ 65535) :
    Calls Try.prog 38 #[.agg #[u.cv t, u.bv t, u.rv t, u.nv t], wv, .int .u16 bits] w fun e w' => ∃ (A B : SV) (T3 : Value) (b : Bool), e = .returned (.tuple #[.agg #[.slice A.p0 A.l0 A.c0, .slice A.p1 A.l1 A.c1, .slice A.p2 A.l2 A.c2, .slice A.p3 A.l3 A.c3], .agg #[.slice B.p0 B.l0 B.c0, .slice B.p1 B.l1 B.c1, .slice B.p2 B.l2 B.c2, .slice B.p3 B.l3 B.c3], T3, .bool b]) ∧ Below w.heap.size w w' ∧ (b = true → LvR w' t nw z bits (.agg #[.slice A.p0 A.l0 A.c0, .slice A.p1 A.l1 A.c1, .slice A.p2 A.l2 A.c2, .slice A.p3 A.l3 A.c3]) (.agg #[.slice B.p0 B.l0 B.c0, .slice B.p1 B.l1 B.c1, .slice B.p2 B.l2 B.c2, .slice B.p3 B.l3 B.c3]) T3) := by
  have HTH : Hid (∀ X, Below w.heap.size w X → Calls Try.prog 17 #[.agg #[u.cv t, u.bv t, u.rv t, u.nv t]] X fun e w' => e = .returned (.bool t.thin) ∧ Below X.heap.size X w') := fun X hX => thin_big _ t hs X (hl.below hX)
  have HFT : Hid (t.small → ∀ X, Below w.heap.size w X → Calls Try.prog 21 #[.agg #[u.cv t, u.bv t, u.rv t, u.nv t]] X fun e w' => e = .returned (.int .i64 t.fault) ∧ Below X.heap.size X w') := fun hsm X hX => lfault_any _ t hsm X (hl.below hX)
  have HPK : Hid (t.small → t.fault = 0 → ∀ X, Below w.heap.size w X → Calls Try.prog 54 #[.agg #[u.cv t, u.bv t, u.rv t, u.nv t], wv] X fun e w' => ∃ y x, e = .returned (.agg #[.slice y.fa x.nf y.fc, .slice y.ba x.nb y.bc, .slice y.da x.nd y.dc, .slice y.ma x.nm y.mc]) ∧ XL w' y x ∧ Gt t x t.nb ∧ x.nb = t.nb ∧ x.nd = t.nb ∧ x.nm = t.nb ∧ Below X.heap.size X w' ∧ ∀ Z, Abv X.heap.size w' Z → XL Z y x) := fun hsm hf X hX => picked_truth u t wv nw z hsm hf X (hl.below hX) hcc hcb (hw.below hX) hn
  have HPL : Hid (t.small → ∀ X y x, Below w.heap.size w X → XL X y x → PlayOk t x → Calls Try.prog 52 #[.agg #[u.cv t, u.bv t, u.rv t, u.nv t], .agg #[.slice y.fa x.nf y.fc, .slice y.ba x.nb y.bc, .slice y.da x.nd y.dc, .slice y.ma x.nm y.mc]] X fun e w' => ∃ v, e = .returned (.tuple #[v, .bool (canC t x t.nb)]) ∧ IRows w' v (t.nb + 1) (fun _ => t.ng) (siz t.ng x) ∧ Below X.heap.size X w' ∧ ∀ Z, Abv X.heap.size w' Z → IRows Z v (t.nb + 1) (fun _ => t.ng) (siz t.ng x)) := fun hsm X y x hX hx hp => play_any u t y x hsm X (hl.below hX) hx hp
  have HCN : Hid (t.small → Okt t → ∀ X (S : Nat → Nat → Int) sv, Below w.heap.size w X → IRows X sv t.nc (fun _ => t.ng) S → (∀ c g, c < t.nc → g < t.ng → 0 ≤ S c g ∧ S c g ≤ 1000000) → Calls Try.prog 79 #[.agg #[u.cv t, u.bv t, u.rv t, u.nv t], sv, wv, .int .u16 bits] X fun e w' => ∃ ca cc, e = .returned (.agg #[.slice ca t.nc cc, u.bv t, u.rv t, u.nv t]) ∧ RowsAt w' (.slice ca t.nc cc) t.nc (fun _ => t.ng) (cntT S nw z bits) ∧ Below X.heap.size X w' ∧ ∀ Z, Abv X.heap.size w' Z → RowsAt Z (.slice ca t.nc cc) t.nc (fun _ => t.ng) (cntT S nw z bits)) := fun hsm ht X S sv hX hS hS2 => rcounted_any u t sv S wv nw z bits hsm ht X (hl.below hX) hS hS2 (hw.below hX) hn hb0 hb1
  have HFC : Hid (Okt t → ∀ X x ca cc, Below w.heap.size w X → RowsAt X (.slice ca t.nc cc) t.nc (fun _ => t.ng) (cntT (siz t.ng x) nw z bits) → Calls Try.prog 21 #[.agg #[.slice ca t.nc cc, u.bv t, u.rv t, u.nv t]] X fun e w' => e = .returned (.int .i64 (t.cnted x nw z bits).fault) ∧ Below X.heap.size X w') := fun ht X x ca cc hX hr => lfault_any { u with ca := ca, cc := cc } (t.cnted x nw z bits) (cnted_small ht x nw z bits) X (cnted_wli hr (hl.below hX))
  have HWL : Hid (∀ X x ca cc, Below w.heap.size w X → RowsAt X (.slice ca t.nc cc) t.nc (fun _ => t.ng) (cntT (siz t.ng x) nw z bits) → WLi X { u with ca := ca, cc := cc } (t.cnted x nw z bits)) := fun X x ca cc hX hr => cnted_wli hr (hl.below hX)
  obtain ⟨wa, wc, rfl⟩ := hw.len
  have HSM : Hid (t.thin = true → t.small) := fun h => Tb.thin_small h h0
  clear hl hw hn hcc hcb hs h0
  simp only [WV.cv, WV.bv, WV.rv, WV.nv] at HTH HFT HPK HPL HCN HFC ⊢
  have HA0 : Hid (BF w (((w.alloc (.cells #[.slice u.ca t.nc u.cc, .slice u.ba t.nb u.bc, .slice u.ra t.nr u.rc, .slice u.na t.nn u.nc] 25)).alloc (.cells #[.slice none 0 0, .slice none 0 0, .slice none 0 0, .slice none 0 0] 25)).alloc (.cells #[.slice none 0 0, .slice none 0 0, .slice none 0 0, .slice none 0 0] 75)) [(w.heap.size, #[.slice u.ca t.nc u.cc, .slice u.ba t.nb u.bc, .slice u.ra t.nr u.rc, .slice u.na t.nn u.nc], 25), (w.heap.size + 1, #[.slice none 0 0, .slice none 0 0, .slice none 0 0, .slice none 0 0], 25), (w.heap.size + 2, #[.slice none 0 0, .slice none 0 0, .slice none 0 0, .slice none 0 0], 75)]) := BF.made3 w _ _ _ _ _ _
  go_enter Try.func38, Try.ntmps38
  cases hth : t.thin
  · go_wp2_with (go_at_call 17; refine (HTH.out _ HA0.out.fr).mono ?_; rw [hth]; rintro _ w1 ⟨rfl, hb1⟩; have HA1 := Lib.hid (HA0.out.below hb1); clear hb1; have c0 := HA1.out.cell (.head _) 0; have c1 := HA1.out.cell (.head _) 1; have c2 := HA1.out.cell (.head _) 2; have c3 := HA1.out.cell (.head _) 3; have r0 := HA1.out.cell (.tail _ (.head _)) 0; have fr0 := HA1.out.thaw (.tail _ (.head _)) 0; have r1 := HA1.out.cell (.tail _ (.head _)) 1; have fr1 := HA1.out.thaw (.tail _ (.head _)) 1; have r2 := HA1.out.cell (.tail _ (.head _)) 2; have fr2 := HA1.out.thaw (.tail _ (.head _)) 2; have r3 := HA1.out.cell (.tail _ (.head _)) 3; have fr3 := HA1.out.thaw (.tail _ (.head _)) 3; have s0 : w1.cell? ⟨w.heap.size + 1 + 1, 0, none⟩ = some (.slice none 0 0) := HA1.out.cell (.tail _ (.tail _ (.head _))) 0; have fs0 : w1.frozen? ⟨w.heap.size + 1 + 1, 0, none⟩ = false := HA1.out.thaw (.tail _ (.tail _ (.head _))) 0; have s1 : w1.cell? ⟨w.heap.size + 1 + 1, 1, none⟩ = some (.slice none 0 0) := HA1.out.cell (.tail _ (.tail _ (.head _))) 1; have fs1 : w1.frozen? ⟨w.heap.size + 1 + 1, 1, none⟩ = false := HA1.out.thaw (.tail _ (.tail _ (.head _))) 1; have s2 : w1.cell? ⟨w.heap.size + 1 + 1, 2, none⟩ = some (.slice none 0 0) := HA1.out.cell (.tail _ (.tail _ (.head _))) 2; have fs2 : w1.frozen? ⟨w.heap.size + 1 + 1, 2, none⟩ = false := HA1.out.thaw (.tail _ (.tail _ (.head _))) 2; have s3 : w1.cell? ⟨w.heap.size + 1 + 1, 3, none⟩ = some (.slice none 0 0) := HA1.out.cell (.tail _ (.tail _ (.head _))) 3; have fs3 : w1.frozen? ⟨w.heap.size + 1 + 1, 3, none⟩ = false := HA1.out.thaw (.tail _ (.tail _ (.head _))) 3)
    have HAp1 := Lib.hid (BF.set4 HA1.out (.tail _ (.head _)) (.slice u.ca t.nc u.cc) (.slice u.ba t.nb u.bc) (.slice u.ra t.nr u.rc) (.slice u.na t.nn u.nc) (L' := [(w.heap.size, #[.slice u.ca t.nc u.cc, .slice u.ba t.nb u.bc, .slice u.ra t.nr u.rc, .slice u.na t.nn u.nc], 25), (w.heap.size + 2, #[.slice none 0 0, .slice none 0 0, .slice none 0 0, .slice none 0 0], 75)]) (List.forall_mem_cons.2 ⟨⟨show w.heap.size ≠ w.heap.size + 1 by omega, (.head _)⟩, List.forall_mem_cons.2 ⟨⟨show w.heap.size + 2 ≠ w.heap.size + 1 by omega, (.tail _ (.tail _ (.head _)))⟩, List.forall_mem_nil _⟩⟩))
    have HAp2 := Lib.hid (BF.set4 HAp1.out (.tail _ (.tail _ (.head _))) (.slice none 0 0) (.slice none 0 0) (.slice none 0 0) (.slice none 0 0) (L' := [(w.heap.size + 1, #[.slice u.ca t.nc u.cc, .slice u.ba t.nb u.bc, .slice u.ra t.nr u.rc, .slice u.na t.nn u.nc], 25), (w.heap.size, #[.slice u.ca t.nc u.cc, .slice u.ba t.nb u.bc, .slice u.ra t.nr u.rc, .slice u.na t.nn u.nc], 25)]) (List.forall_mem_cons.2 ⟨⟨show w.heap.size + 1 ≠ w.heap.size + 2 by omega, (.head _)⟩, List.forall_mem_cons.2 ⟨⟨show w.heap.size ≠ w.heap.size + 2 by omega, (.tail _ (.head _))⟩, List.forall_mem_nil _⟩⟩))
    have q0 := HAp2.out.cell (.tail _ (.head _)) 0
    have q1 := HAp2.out.cell (.tail _ (.head _)) 1
    have q2 := HAp2.out.cell (.tail _ (.head _)) 2
    have q3 := HAp2.out.cell (.tail _ (.head _)) 3
    have p0 := HAp2.out.cell (.head _) 0
    have p1 := HAp2.out.cell (.head _) 1
    have p2 := HAp2.out.cell (.head _) 2
    have p3 := HAp2.out.cell (.head _) 3
    have HFIN := HAp2
    generalize ((((((((w1.setCell ⟨w.heap.size + 1, 0, none⟩ (.slice u.ca t.nc u.cc)).setCell ⟨w.heap.size + 1, 1, none⟩ (.slice u.ba t.nb u.bc)).setCell ⟨w.heap.size + 1, 2, none⟩ (.slice u.ra t.nr u.rc)).setCell ⟨w.heap.size + 1, 3, none⟩ (.slice u.na t.nn u.nc)).setCell ⟨w.heap.size + 2, 0, none⟩ (.slice none 0 0)).setCell ⟨w.heap.size + 2, 1, none⟩ (.slice none 0 0)).setCell ⟨w.heap.size + 2, 2, none⟩ (.slice none 0 0)).setCell ⟨w.heap.size + 2, 3, none⟩ (.slice none 0 0)) = wf at *
    refine bodyPost_ret (v := .tuple #[.agg #[.slice u.ca t.nc u.cc, .slice u.ba t.nb u.bc, .slice u.ra t.nr u.rc, .slice u.na t.nn u.nc], .agg #[.slice none 0 0, .slice none 0 0, .slice none 0 0, .slice none 0 0], .slice none 0 0, .bool false]) (by simp [results, Try.results38, go_sem, q0, q1, q2, q3, p0, p1, p2, p3]) rfl ⟨⟨_, _, _, _, _, _, _, _, _, _, _, _⟩, ⟨_, _, _, _, _, _, _, _, _, _, _, _⟩, _, _, rfl, HFIN.out.fr, fun h => absurd h (by decide)⟩
  have hsm := HSM.out hth
  by_cases hf : t.fault = 0
  · have HT := Lib.hid (Okt.of_fault hf)
    have HPK2 := Lib.hid (HPK.out hsm hf)
    have HPL2 := Lib.hid (HPL.out hsm)
    have HCN2 := Lib.hid (HCN.out hsm HT.out)
    have HFC2 := Lib.hid (HFC.out HT.out)
    have HTH0 := Lib.hid hth; have HF0 := Lib.hid hf
    have HNB := Lib.hid HT.out.nb
    clear HPK HPL HCN HFC
    go_wp2_with (first | (go_at_call 17; refine (HTH.out _ HA0.out.fr).mono ?_; rw [hth]; rintro _ w1 ⟨rfl, hb1⟩; have HA1 := Lib.hid (HA0.out.below hb1); clear hb1; have c0 := HA1.out.cell (.head _) 0; have c1 := HA1.out.cell (.head _) 1; have c2 := HA1.out.cell (.head _) 2; have c3 := HA1.out.cell (.head _) 3) | (go_at_call 21; refine (HFT.out hsm _ HA1.out.fr).mono ?_; rw [hf]; rintro _ w2 ⟨rfl, hb2⟩; have HA2 := Lib.hid (HA1.out.below hb2); clear hb2; have d0 := HA2.out.cell (.head _) 0; have d1 := HA2.out.cell (.head _) 1; have d2 := HA2.out.cell (.head _) 2; have d3 := HA2.out.cell (.head _) 3) | (go_at_call 54; refine (HPK2.out _ HA2.out.fr).mono ?_; rintro _ w3 ⟨y, x, rfl, hxl, hgt, hxb, hxd, hxm, hb3, hxa⟩; have HA3 := Lib.hid ((HA2.out.below hb3).alloc #[.slice y.fa x.nf y.fc, .slice y.ba x.nb y.bc, .slice y.da x.nd y.dc, .slice y.ma x.nm y.mc] 75); have HXL := Lib.hid (hxl.below (below_alloc w3 (.cells #[.slice y.fa x.nf y.fc, .slice y.ba x.nb y.bc, .slice y.da x.nd y.dc, .slice y.ma x.nm y.mc] 75))); have HGT := Lib.hid hgt; have HXE := Lib.hid (And.intro hxb (And.intro hxd hxm)); have HXA := Lib.hid hxa; have HB3 := Lib.hid hb3; clear hb3 hxl hgt hxb hxd hxm hxa; have g0 := HA3.out.cell (.tail _ (.head _)) 0; have g1 := HA3.out.cell (.tail _ (.head _)) 1; have g2 := HA3.out.cell (.tail _ (.head _)) 2; have g3 := HA3.out.cell (.tail _ (.head _)) 3; have h0 := HA3.out.cell (.head _) 0; have h1 := HA3.out.cell (.head _) 1; have h2 := HA3.out.cell (.head _) 2; have h3 := HA3.out.cell (.head _) 3))
    refine (HPL2.out _ _ _ HA3.out.fr HXL.out (play_full HT.out HGT.out HXE.out.1 HXE.out.2.1 HXE.out.2.2)).mono ?_
    rintro _ w4 ⟨sv, rfl, hsi, hb4, hsa⟩
    obtain ⟨sa, sc, rfl⟩ := hsi.slice
    have HB4 := Lib.hid hb4; have HSI := Lib.hid hsi; have HSA := Lib.hid hsa
    have HXA2 : Hid (∀ Z, Abv w2.heap.size w4 Z → XL Z y x) := fun Z hZ => HXA.out Z (((Abv.below (below_alloc w3 (.cells #[.slice y.fa x.nf y.fc, .slice y.ba x.nb y.bc, .slice y.da x.nd y.dc, .slice y.ma x.nm y.mc] 75))).trans (Abv.below hb4)).trans hZ)
    have HA4 := Lib.hid (HA3.out.below hb4)
    have HZ2 : Hid (w.heap.size + 3 ≤ w2.heap.size) := HA2.out.size3
    have HZ4 : Hid (w2.heap.size ≤ w3.heap.size) := HB3.out.size
    clear hsi hb4 hsa HXL HXA HA3 HA0 HA1 HTH HFT HB3
    clear c0 c1 c2 c3 d0 d1 d2 d3 g0 g1 g2 g3 h0 h1 h2 h3
    have hxb : w.heap.size + 3 ≤ w3.heap.size := Nat.le_trans HZ2.out HZ4.out
    have hz4 : w3.heap.size < (w3.alloc (.cells #[.slice y.fa x.nf y.fc, .slice y.ba x.nb y.bc, .slice y.da x.nd y.dc, .slice y.ma x.nm y.mc] 75)).heap.size := by simp
    generalize (w3.alloc (.cells #[.slice y.fa x.nf y.fc, .slice y.ba x.nb y.bc, .slice y.da x.nd y.dc, .slice y.ma x.nm y.mc] 75)) = wA at *
    generalize w3.heap.size = xb at *
    cases hcan : canC t x t.nb
    · go_wp2_with fail
      have HAX := Lib.hid (HA4.out.below (Below.refl _ w4).drew)
      refine wp_region_held_drew (S := fun X => X.cell? ⟨w.heap.size, 0, none⟩ = some (.slice u.ca t.nc u.cc) ∧ X.cell? ⟨w.heap.size, 1, none⟩ = some (.slice u.ba t.nb u.bc) ∧ X.cell? ⟨w.heap.size, 2, none⟩ = some (.slice u.ra t.nr u.rc) ∧ X.cell? ⟨w.heap.size, 3, none⟩ = some (.slice u.na t.nn u.nc) ∧ X.cell? ⟨xb, 0, none⟩ = some (.slice y.fa x.nf y.fc) ∧ X.cell? ⟨xb, 1, none⟩ = some (.slice y.ba x.nb y.bc) ∧ X.cell? ⟨xb, 2, none⟩ = some (.slice y.da x.nd y.dc) ∧ X.cell? ⟨xb, 3, none⟩ = some (.slice y.ma x.nm y.mc)) (by kernel_rfl) (⟨HAX.out.cell (.tail _ (.head _)) 0, HAX.out.cell (.tail _ (.head _)) 1, HAX.out.cell (.tail _ (.head _)) 2, HAX.out.cell (.tail _ (.head _)) 3, HAX.out.cell (.head _) 0, HAX.out.cell (.head _) 1, HAX.out.cell (.head _) 2, HAX.out.cell (.head _) 3⟩) (fun hS => ?_)
      generalize w4.drew = X at *
      refine tk [0, 1, 2] ?_
      repeat (refine tkH (oi := ⟨_, _, _, _, _, _⟩) (v := ?_) rfl (by kernel_rfl) (by rfl) (fun _ _ _ h => h) hS ?_ ?_; rotate_left; (· rintro W' ⟨z0, z1, z2, z3, z4, z5, z6, z7⟩; go_simp; try with_reducible rfl); try simp only [Act.put, putA, putZ, putS])
      refine tk0 ?_
      refine wpAnyH_ready (rs := [3]) (by kernel_rfl) (by simp) ?_
      refine AllReadyH.cons (o := ⟨none, _, _, _, _, _⟩) rfl (fun K hK => ?_) AllReadyH.nil
      have e0 := HAX.out.cell (.tail _ (.tail _ (.head _))) 0
      have f0 := HAX.out.thaw (.tail _ (.tail _ (.head _))) 0
      have e1 := HAX.out.cell (.tail _ (.tail _ (.head _))) 1
      have f1 := HAX.out.thaw (.tail _ (.tail _ (.head _))) 1
      have e2 := HAX.out.cell (.tail _ (.tail _ (.head _))) 2
      have f2 := HAX.out.thaw (.tail _ (.tail _ (.head _))) 2
      have e3 := HAX.out.cell (.tail _ (.tail _ (.head _))) 3
      have f3 := HAX.out.thaw (.tail _ (.tail _ (.head _))) 3
      have HA0 := Lib.hid (BF.set4 HAX.out (.tail _ (.tail _ (.head _))) (.slice u.ca t.nc u.cc) (.slice u.ba t.nb u.bc) (.slice u.ra t.nr u.rc) (.slice u.na t.nn u.nc) (L' := [(xb, #[.slice y.fa x.nf y.fc, .slice y.ba x.nb y.bc, .slice y.da x.nd y.dc, .slice y.ma x.nm y.mc], 75), (w.heap.size, #[.slice u.ca t.nc u.cc, .slice u.ba t.nb u.bc, .slice u.ra t.nr u.rc, .slice u.na t.nn u.nc], 25), (w.heap.size + 2, #[.slice none 0 0, .slice none 0 0, .slice none 0 0, .slice none 0 0], 75)]) (List.forall_mem_cons.2 ⟨⟨show xb ≠ w.heap.size + 1 by omega, (.head _)⟩, List.forall_mem_cons.2 ⟨⟨show w.heap.size ≠ w.heap.size + 1 by omega, (.tail _ (.head _))⟩, List.forall_mem_cons.2 ⟨⟨show w.heap.size + 2 ≠ w.heap.size + 1 by omega, (.tail _ (.tail _ (.tail _ (.head _))))⟩, List.forall_mem_nil _⟩⟩⟩))
      go_simp
      refine hK.out _ _ (⟨HA0.out.cell (.tail _ (.tail _ (.head _))) 0, HA0.out.cell (.tail _ (.tail _ (.head _))) 1, HA0.out.cell (.tail _ (.tail _ (.head _))) 2, HA0.out.cell (.tail _ (.tail _ (.head _))) 3, HA0.out.cell (.tail _ (.head _)) 0, HA0.out.cell (.tail _ (.head _)) 1, HA0.out.cell (.tail _ (.head _)) 2, HA0.out.cell (.tail _ (.head _)) 3⟩) (fun hS => ?_)
      clear hK K
      (try simp only [Act.put])
      clear e0 e1 e2 e3 f0 f1 f2 f3
      refine wpAnyH_ready (rs := [4]) (by kernel_rfl) (by simp) ?_
      refine AllReadyH.cons (o := ⟨none, _, _, _, _, _⟩) rfl (fun K hK => ?_) AllReadyH.nil
      have e0 := HA0.out.cell (.tail _ (.tail _ (.tail _ (.head _)))) 0
      have f0 := HA0.out.thaw (.tail _ (.tail _ (.tail _ (.head _)))) 0
      have e1 := HA0.out.cell (.tail _ (.tail _ (.tail _ (.head _)))) 1
      have f1 := HA0.out.thaw (.tail _ (.tail _ (.tail _ (.head _)))) 1
      have e2 := HA0.out.cell (.tail _ (.tail _ (.tail _ (.head _)))) 2
      have f2 := HA0.out.thaw (.tail _ (.tail _ (.tail _ (.head _)))) 2
      have e3 := HA0.out.cell (.tail _ (.tail _ (.tail _ (.head _)))) 3
      have f3 := HA0.out.thaw (.tail _ (.tail _ (.tail _ (.head _)))) 3
      have HA1 := Lib.hid (BF.set4 HA0.out (.tail _ (.tail _ (.tail _ (.head _)))) (.slice y.fa x.nf y.fc) (.slice y.ba x.nb y.bc) (.slice y.da x.nd y.dc) (.slice y.ma x.nm y.mc) (L' := [(w.heap.size + 1, #[.slice u.ca t.nc u.cc, .slice u.ba t.nb u.bc, .slice u.ra t.nr u.rc, .slice u.na t.nn u.nc], 25), (xb, #[.slice y.fa x.nf y.fc, .slice y.ba x.nb y.bc, .slice y.da x.nd y.dc, .slice y.ma x.nm y.mc], 75), (w.heap.size, #[.slice u.ca t.nc u.cc, .slice u.ba t.nb u.bc, .slice u.ra t.nr u.rc, .slice u.na t.nn u.nc], 25)]) (List.forall_mem_cons.2 ⟨⟨show w.heap.size + 1 ≠ w.heap.size + 2 by omega, (.head _)⟩, List.forall_mem_cons.2 ⟨⟨show xb ≠ w.heap.size + 2 by omega, (.tail _ (.head _))⟩, List.forall_mem_cons.2 ⟨⟨show w.heap.size ≠ w.heap.size + 2 by omega, (.tail _ (.tail _ (.head _)))⟩, List.forall_mem_nil _⟩⟩⟩))
      go_simp
      refine hK.out _ _ (⟨HA1.out.cell (.tail _ (.tail _ (.tail _ (.head _)))) 0, HA1.out.cell (.tail _ (.tail _ (.tail _ (.head _)))) 1, HA1.out.cell (.tail _ (.tail _ (.tail _ (.head _)))) 2, HA1.out.cell (.tail _ (.tail _ (.tail _ (.head _)))) 3, HA1.out.cell (.tail _ (.tail _ (.head _))) 0, HA1.out.cell (.tail _ (.tail _ (.head _))) 1, HA1.out.cell (.tail _ (.tail _ (.head _))) 2, HA1.out.cell (.tail _ (.tail _ (.head _))) 3⟩) (fun hS => ?_)
      clear hK K
      (try simp only [Act.put])
      clear e0 e1 e2 e3 f0 f1 f2 f3
      refine tk [5, 6] ?_
      repeat (refine tkH (oi := ⟨_, _, _, _, _, _⟩) (v := ?_) rfl (by kernel_rfl) (by rfl) (fun _ _ _ h => h) hS ?_ ?_; rotate_left; (· rintro W' ⟨z0, z1, z2, z3, z4, z5, z6, z7⟩; go_simp; try with_reducible rfl); try simp only [Act.put, putA, putZ, putS])
      refine tk0 ?_
      refine wpAnyH_done (by kernel_rfl) ?_ _
      go_wp2_with fail
      have q0 := HA1.out.cell (.tail _ (.head _)) 0
      have q1 := HA1.out.cell (.tail _ (.head _)) 1
      have q2 := HA1.out.cell (.tail _ (.head _)) 2
      have q3 := HA1.out.cell (.tail _ (.head _)) 3
      have p0 := HA1.out.cell (.head _) 0
      have p1 := HA1.out.cell (.head _) 1
      have p2 := HA1.out.cell (.head _) 2
      have p3 := HA1.out.cell (.head _) 3
      have HFIN := HA1
      generalize ((((((((X.setCell ⟨w.heap.size + 1, 0, none⟩ (.slice u.ca t.nc u.cc)).setCell ⟨w.heap.size + 1, 1, none⟩ (.slice u.ba t.nb u.bc)).setCell ⟨w.heap.size + 1, 2, none⟩ (.slice u.ra t.nr u.rc)).setCell ⟨w.heap.size + 1, 3, none⟩ (.slice u.na t.nn u.nc)).setCell ⟨w.heap.size + 2, 0, none⟩ (.slice y.fa x.nf y.fc)).setCell ⟨w.heap.size + 2, 1, none⟩ (.slice y.ba x.nb y.bc)).setCell ⟨w.heap.size + 2, 2, none⟩ (.slice y.da x.nd y.dc)).setCell ⟨w.heap.size + 2, 3, none⟩ (.slice y.ma x.nm y.mc)) = wf at *
      refine bodyPost_ret (v := .tuple #[.agg #[.slice u.ca t.nc u.cc, .slice u.ba t.nb u.bc, .slice u.ra t.nr u.rc, .slice u.na t.nn u.nc], .agg #[.slice y.fa x.nf y.fc, .slice y.ba x.nb y.bc, .slice y.da x.nd y.dc, .slice y.ma x.nm y.mc], .slice sa (t.nb + 1) sc, .bool false]) (by simp [results, Try.results38, go_sem, q0, q1, q2, q3, p0, p1, p2, p3]) rfl ⟨⟨_, _, _, _, _, _, _, _, _, _, _, _⟩, ⟨_, _, _, _, _, _, _, _, _, _, _, _⟩, _, _, rfl, HFIN.out.fr, fun h => absurd h (by decide)⟩
    · have HLV : Hid (∀ c g, c < t.nc → g < t.ng → 0 ≤ siz t.ng x c g ∧ siz t.ng x c g ≤ 1000000) := fun c g hc hg => by
        have h1 := (Lv.of_can HT.out.w t.nb (Nat.le_refl _) HGT.out.fit hcan).sz c (by have := HT.out.nb; omega) g hg
        have h2 := bdP_le (c := c) (by have := HT.out.nc4; omega)
        exact ⟨h1.1, Int.le_trans h1.2 h2⟩
      have HCAN := Lib.hid hcan
      have hsi2 := HSI.out
      rw [HNB.out] at hsi2
      have HSI2 := Lib.hid hsi2
      clear hsi2 hcan
      have k0 := HA4.out.cell (.tail _ (.head _)) 0
      have k1 := HA4.out.cell (.tail _ (.head _)) 1
      have k2 := HA4.out.cell (.tail _ (.head _)) 2
      have k3 := HA4.out.cell (.tail _ (.head _)) 3
      go_wp2_with (go_at_call 79; rw [HNB.out]; refine (HCN2.out _ _ _ HA4.out.fr HSI2.out HLV.out).mono ?_; rintro _ w5 ⟨ca, cc, rfl, hra, hb5, hca⟩; have HB5 := Lib.hid hb5; have HCA := Lib.hid hca; have HA5 := Lib.hid ((HA4.out.below hb5).alloc #[.slice ca t.nc cc, .slice u.ba t.nb u.bc, .slice u.ra t.nr u.rc, .slice u.na t.nn u.nc] 25); clear hb5 hra hca)
      clear k0 k1 k2 k3
      have hb5 := below_step HB5.out (below_alloc w5 (.cells #[.slice ca t.nc cc, .slice u.ba t.nb u.bc, .slice u.ra t.nr u.rc, .slice u.na t.nn u.nc] 25))
      have hz3 := HZ2.out
      have hz5 : wA.heap.size ≤ w4.heap.size := HB4.out.size
      have hz6 : w2.heap.size ≤ wA.heap.size := by have := HZ4.out; omega
      have hyb : w4.heap.size ≤ w5.heap.size := HB5.out.size
      have HCA3 : Hid (∀ Z, Abv w4.heap.size (w5.alloc (.cells #[.slice ca t.nc cc, .slice u.ba t.nb u.bc, .slice u.ra t.nr u.rc, .slice u.na t.nn u.nc] 25)) Z → RowsAt Z (.slice ca t.nc cc) t.nc (fun _ => t.ng) (cntT (siz t.ng x) nw z bits)) := fun Z hZ => HCA.out Z ((Abv.below (below_alloc _ _)).trans hZ)
      have HSET : Hid (∀ X Z, Below (w5.alloc (.cells #[.slice ca t.nc cc, .slice u.ba t.nb u.bc, .slice u.ra t.nr u.rc, .slice u.na t.nn u.nc] 25)).heap.size (w5.alloc (.cells #[.slice ca t.nc cc, .slice u.ba t.nb u.bc, .slice u.ra t.nr u.rc, .slice u.na t.nn u.nc] 25)) X → Fr (fun b => b < w.heap.size + 3) X Z → XL Z y x ∧ IRows Z (.slice sa (t.nb + 1) sc) (t.nb + 1) (fun _ => t.ng) (siz t.ng x) ∧ RowsAt Z (.slice ca t.nc cc) t.nc (fun _ => t.ng) (cntT (siz t.ng x) nw z bits)) := fun X Z hX hZ =>
        ⟨HXA2.out Z (((Abv.below hb5).trans (Abv.below hX)).trans (Abv.fr hZ (fun b h e => by omega))), HSA.out Z (((Abv.below hb5).trans (Abv.below hX)).trans (Abv.fr hZ (fun b h e => by omega))), HCA3.out Z ((Abv.below hX).trans (Abv.fr hZ (fun b h e => by omega)))⟩
      have HFY : Hid (∀ X, Below w.heap.size w X → Below (w5.alloc (.cells #[.slice ca t.nc cc, .slice u.ba t.nb u.bc, .slice u.ra t.nr u.rc, .slice u.na t.nn u.nc] 25)).heap.size (w5.alloc (.cells #[.slice ca t.nc cc, .slice u.ba t.nb u.bc, .slice u.ra t.nr u.rc, .slice u.na t.nn u.nc] 25)) X → Calls Try.prog 21 #[.agg #[.slice ca t.nc cc, .slice u.ba t.nb u.bc, .slice u.ra t.nr u.rc, .slice u.na t.nn u.nc]] X fun e w' => e = .returned (.int .i64 (t.cnted x nw z bits).fault) ∧ Below X.heap.size X w') := fun X hX hB => HFC2.out X x ca cc hX (HCA3.out X (Abv.below hB))
      have HBX : Hid (Below (w5.alloc (.cells #[.slice ca t.nc cc, .slice u.ba t.nb u.bc, .slice u.ra t.nr u.rc, .slice u.na t.nn u.nc] 25)).heap.size (w5.alloc (.cells #[.slice ca t.nc cc, .slice u.ba t.nb u.bc, .slice u.ra t.nr u.rc, .slice u.na t.nn u.nc] 25)) (w5.alloc (.cells #[.slice ca t.nc cc, .slice u.ba t.nb u.bc, .slice u.ra t.nr u.rc, .slice u.na t.nn u.nc] 25)).drew) := (Below.refl _ _).drew
      obtain ⟨f, HF1⟩ : ∃ f, Hid ((t.cnted x nw z bits).fault = f) := ⟨_, rfl⟩
      rw [HF1.out] at HFY
      clear hb5 HCA3 HCA HSA HXA2 HFC2 HCN2 HB4 HB5 HSI HSI2 HLV HPK2 HPL2 HA2 HA4
      have hyb2 : xb < w5.heap.size := by omega
      have hyb3 : w.heap.size + 3 ≤ w5.heap.size := by omega
      clear hz3 hz5 hz6 hyb hz4
      generalize (w5.alloc (.cells #[.slice ca t.nc cc, .slice u.ba t.nb u.bc, .slice u.ra t.nr u.rc, .slice u.na t.nn u.nc] 25)) = wB at *
      generalize w5.heap.size = yb at *
      have HAX := Lib.hid (HA5.out.below (Below.refl _ wB).drew)
      clear HA5
      refine wp_region_held_drew (S := fun X => X.cell? ⟨yb, 0, none⟩ = some (.slice ca t.nc cc) ∧ X.cell? ⟨yb, 1, none⟩ = some (.slice u.ba t.nb u.bc) ∧ X.cell? ⟨yb, 2, none⟩ = some (.slice u.ra t.nr u.rc) ∧ X.cell? ⟨yb, 3, none⟩ = some (.slice u.na t.nn u.nc) ∧ X.cell? ⟨xb, 0, none⟩ = some (.slice y.fa x.nf y.fc) ∧ X.cell? ⟨xb, 1, none⟩ = some (.slice y.ba x.nb y.bc) ∧ X.cell? ⟨xb, 2, none⟩ = some (.slice y.da x.nd y.dc) ∧ X.cell? ⟨xb, 3, none⟩ = some (.slice y.ma x.nm y.mc)) (by kernel_rfl) (⟨HAX.out.cell (.head _) 0, HAX.out.cell (.head _) 1, HAX.out.cell (.head _) 2, HAX.out.cell (.head _) 3, HAX.out.cell (.tail _ (.head _)) 0, HAX.out.cell (.tail _ (.head _)) 1, HAX.out.cell (.tail _ (.head _)) 2, HAX.out.cell (.tail _ (.head _)) 3⟩) (fun hS => ?_)
      generalize wB.drew = X at *
      refine tk [0, 1, 2, 3] ?_
      repeat (refine tkH (oi := ⟨_, _, _, _, _, _⟩) (v := ?_) rfl (by kernel_rfl) (by rfl) (fun _ _ _ h => h) hS ?_ ?_; rotate_left; (· rintro W' ⟨z0, z1, z2, z3, z4, z5, z6, z7⟩; go_simp; try with_reducible rfl); try simp only [Act.put, putA, putZ, putS])
      refine tk0 ?_
      refine wpAnyH_ready (rs := [4]) (by kernel_rfl) (by simp) ?_
      refine AllReadyH.cons (o := ⟨some 47, _, _, _, _, _⟩) rfl (fun K hK => ?_) AllReadyH.nil
      go_simp
      refine (HFY.out _ HAX.out.fr HBX.out).mono ?_
      rintro _ X0 ⟨rfl, hb0⟩
      (try go_wp2_with fail)
      have HA0 := Lib.hid (HAX.out.below hb0)
      have HBN := Lib.hid (below_step HBX.out hb0)
      refine hK.out _ _ (⟨HA0.out.cell (.head _) 0, HA0.out.cell (.head _) 1, HA0.out.cell (.head _) 2, HA0.out.cell (.head _) 3, HA0.out.cell (.tail _ (.head _)) 0, HA0.out.cell (.tail _ (.head _)) 1, HA0.out.cell (.tail _ (.head _)) 2, HA0.out.cell (.tail _ (.head _)) 3⟩) (fun hS => ?_)
      clear hK K
      try simp only [Act.put, putA, putZ, putS]
      clear hb0
      refine tH 5 (oi := ⟨_, _, _, _, _, _⟩) (v := ?_) rfl (by kernel_rfl) (by rfl) (fun _ _ _ h => h) hS ?_ ?_
      rotate_left
      · rintro W' ⟨z0, z1, z2, z3, z4, z5, z6, z7⟩; go_simp; try with_reducible rfl
      try simp only [Act.put, putA, putZ, putS]
      refine wpAnyH_ready (rs := [6]) (by kernel_rfl) (by simp) ?_
      refine AllReadyH.cons (o := ⟨none, _, _, _, _, _⟩) rfl (fun K hK => ?_) AllReadyH.nil
      have e0 := HA0.out.cell (.tail _ (.tail _ (.tail _ (.head _)))) 0
      have f0 := HA0.out.thaw (.tail _ (.tail _ (.tail _ (.head _)))) 0
      have e1 := HA0.out.cell (.tail _ (.tail _ (.tail _ (.head _)))) 1
      have f1 := HA0.out.thaw (.tail _ (.tail _ (.tail _ (.head _)))) 1
      have e2 := HA0.out.cell (.tail _ (.tail _ (.tail _ (.head _)))) 2
      have f2 := HA0.out.thaw (.tail _ (.tail _ (.tail _ (.head _)))) 2
      have e3 := HA0.out.cell (.tail _ (.tail _ (.tail _ (.head _)))) 3
      have f3 := HA0.out.thaw (.tail _ (.tail _ (.tail _ (.head _)))) 3
      have HA1 := Lib.hid (BF.set4 HA0.out (.tail _ (.tail _ (.tail _ (.head _)))) (.slice ca t.nc cc) (.slice u.ba t.nb u.bc) (.slice u.ra t.nr u.rc) (.slice u.na t.nn u.nc) (L' := [(yb, #[.slice ca t.nc cc, .slice u.ba t.nb u.bc, .slice u.ra t.nr u.rc, .slice u.na t.nn u.nc], 25), (xb, #[.slice y.fa x.nf y.fc, .slice y.ba x.nb y.bc, .slice y.da x.nd y.dc, .slice y.ma x.nm y.mc], 75), (w.heap.size, #[.slice u.ca t.nc u.cc, .slice u.ba t.nb u.bc, .slice u.ra t.nr u.rc, .slice u.na t.nn u.nc], 25), (w.heap.size + 2, #[.slice none 0 0, .slice none 0 0, .slice none 0 0, .slice none 0 0], 75)]) (List.forall_mem_cons.2 ⟨⟨show yb ≠ w.heap.size + 1 by omega, (.head _)⟩, List.forall_mem_cons.2 ⟨⟨show xb ≠ w.heap.size + 1 by omega, (.tail _ (.head _))⟩, List.forall_mem_cons.2 ⟨⟨show w.heap.size ≠ w.heap.size + 1 by omega, (.tail _ (.tail _ (.head _)))⟩, List.forall_mem_cons.2 ⟨⟨show w.heap.size + 2 ≠ w.heap.size + 1 by omega, (.tail _ (.tail _ (.tail _ (.tail _ (.head _)))))⟩, List.forall_mem_nil _⟩⟩⟩⟩))
      go_simp
      refine hK.out _ _ (⟨HA1.out.cell (.tail _ (.head _)) 0, HA1.out.cell (.tail _ (.head _)) 1, HA1.out.cell (.tail _ (.head _)) 2, HA1.out.cell (.tail _ (.head _)) 3, HA1.out.cell (.tail _ (.tail _ (.head _))) 0, HA1.out.cell (.tail _ (.tail _ (.head _))) 1, HA1.out.cell (.tail _ (.tail _ (.head _))) 2, HA1.out.cell (.tail _ (.tail _ (.head _))) 3⟩) (fun hS => ?_)
      clear hK K
      (try simp only [Act.put])
      clear e0 e1 e2 e3 f0 f1 f2 f3
      refine wpAnyH_ready (rs := [7]) (by kernel_rfl) (by simp) ?_
      refine AllReadyH.cons (o := ⟨none, _, _, _, _, _⟩) rfl (fun K hK => ?_) AllReadyH.nil
      have e0 := HA1.out.cell (.tail _ (.tail _ (.tail _ (.tail _ (.head _))))) 0
      have f0 := HA1.out.thaw (.tail _ (.tail _ (.tail _ (.tail _ (.head _))))) 0
      have e1 := HA1.out.cell (.tail _ (.tail _ (.tail _ (.tail _ (.head _))))) 1
      have f1 := HA1.out.thaw (.tail _ (.tail _ (.tail _ (.tail _ (.head _))))) 1
      have e2 := HA1.out.cell (.tail _ (.tail _ (.tail _ (.tail _ (.head _))))) 2
      have f2 := HA1.out.thaw (.tail _ (.tail _ (.tail _ (.tail _ (.head _))))) 2
      have e3 := HA1.out.cell (.tail _ (.tail _ (.tail _ (.tail _ (.head _))))) 3
      have f3 := HA1.out.thaw (.tail _ (.tail _ (.tail _ (.tail _ (.head _))))) 3
      have HA2 := Lib.hid (BF.set4 HA1.out (.tail _ (.tail _ (.tail _ (.tail _ (.head _))))) (.slice y.fa x.nf y.fc) (.slice y.ba x.nb y.bc) (.slice y.da x.nd y.dc) (.slice y.ma x.nm y.mc) (L' := [(w.heap.size + 1, #[.slice ca t.nc cc, .slice u.ba t.nb u.bc, .slice u.ra t.nr u.rc, .slice u.na t.nn u.nc], 25), (yb, #[.slice ca t.nc cc, .slice u.ba t.nb u.bc, .slice u.ra t.nr u.rc, .slice u.na t.nn u.nc], 25), (xb, #[.slice y.fa x.nf y.fc, .slice y.ba x.nb y.bc, .slice y.da x.nd y.dc, .slice y.ma x.nm y.mc], 75), (w.heap.size, #[.slice u.ca t.nc u.cc, .slice u.ba t.nb u.bc, .slice u.ra t.nr u.rc, .slice u.na t.nn u.nc], 25)]) (List.forall_mem_cons.2 ⟨⟨show w.heap.size + 1 ≠ w.heap.size + 2 by omega, (.head _)⟩, List.forall_mem_cons.2 ⟨⟨show yb ≠ w.heap.size + 2 by omega, (.tail _ (.head _))⟩, List.forall_mem_cons.2 ⟨⟨show xb ≠ w.heap.size + 2 by omega, (.tail _ (.tail _ (.head _)))⟩, List.forall_mem_cons.2 ⟨⟨show w.heap.size ≠ w.heap.size + 2 by omega, (.tail _ (.tail _ (.tail _ (.head _))))⟩, List.forall_mem_nil _⟩⟩⟩⟩))
      go_simp
      refine hK.out _ _ (⟨HA2.out.cell (.tail _ (.tail _ (.head _))) 0, HA2.out.cell (.tail _ (.tail _ (.head _))) 1, HA2.out.cell (.tail _ (.tail _ (.head _))) 2, HA2.out.cell (.tail _ (.tail _ (.head _))) 3, HA2.out.cell (.tail _ (.tail _ (.tail _ (.head _)))) 0, HA2.out.cell (.tail _ (.tail _ (.tail _ (.head _)))) 1, HA2.out.cell (.tail _ (.tail _ (.tail _ (.head _)))) 2, HA2.out.cell (.tail _ (.tail _ (.tail _ (.head _)))) 3⟩) (fun hS => ?_)
      clear hK K
      (try simp only [Act.put])
      clear e0 e1 e2 e3 f0 f1 f2 f3
      refine tk [8, 9] ?_
      repeat (refine tkH (oi := ⟨_, _, _, _, _, _⟩) (v := ?_) rfl (by kernel_rfl) (by rfl) (fun _ _ _ h => h) hS ?_ ?_; rotate_left; (· rintro W' ⟨z0, z1, z2, z3, z4, z5, z6, z7⟩; go_simp; try with_reducible rfl); try simp only [Act.put, putA, putZ, putS])
      refine tk0 ?_
      refine wpAnyH_done (by kernel_rfl) ?_ _
      go_wp2_with fail
      have hset := HSET.out _ _ HBN.out ((((fr4 X0 (w.heap.size + 1) (.slice ca t.nc cc) (.slice u.ba t.nb u.bc) (.slice u.ra t.nr u.rc) (.slice u.na t.nn u.nc)).mono (fun k _ e => by omega))).trans ((fr4 _ (w.heap.size + 2) (.slice y.fa x.nf y.fc) (.slice y.ba x.nb y.bc) (.slice y.da x.nd y.dc) (.slice y.ma x.nm y.mc)).mono (fun k _ e => by omega)))
      have q0 := HA2.out.cell (.tail _ (.head _)) 0
      have q1 := HA2.out.cell (.tail _ (.head _)) 1
      have q2 := HA2.out.cell (.tail _ (.head _)) 2
      have q3 := HA2.out.cell (.tail _ (.head _)) 3
      have p0 := HA2.out.cell (.head _) 0
      have p1 := HA2.out.cell (.head _) 1
      have p2 := HA2.out.cell (.head _) 2
      have p3 := HA2.out.cell (.head _) 3
      have HFIN := HA2
      generalize ((((((((X0.setCell ⟨w.heap.size + 1, 0, none⟩ (.slice ca t.nc cc)).setCell ⟨w.heap.size + 1, 1, none⟩ (.slice u.ba t.nb u.bc)).setCell ⟨w.heap.size + 1, 2, none⟩ (.slice u.ra t.nr u.rc)).setCell ⟨w.heap.size + 1, 3, none⟩ (.slice u.na t.nn u.nc)).setCell ⟨w.heap.size + 2, 0, none⟩ (.slice y.fa x.nf y.fc)).setCell ⟨w.heap.size + 2, 1, none⟩ (.slice y.ba x.nb y.bc)).setCell ⟨w.heap.size + 2, 2, none⟩ (.slice y.da x.nd y.dc)).setCell ⟨w.heap.size + 2, 3, none⟩ (.slice y.ma x.nm y.mc)) = wf at *
      refine bodyPost_ret (v := .tuple #[.agg #[.slice ca t.nc cc, .slice u.ba t.nb u.bc, .slice u.ra t.nr u.rc, .slice u.na t.nn u.nc], .agg #[.slice y.fa x.nf y.fc, .slice y.ba x.nb y.bc, .slice y.da x.nd y.dc, .slice y.ma x.nm y.mc], .slice sa t.nc sc, .bool (f == 0)]) (by simp [results, Try.results38, go_sem, q0, q1, q2, q3, p0, p1, p2, p3]) rfl ⟨⟨_, _, _, _, _, _, _, _, _, _, _, _⟩, ⟨_, _, _, _, _, _, _, _, _, _, _, _⟩, _, _, rfl, HFIN.out.fr, fun h => ⟨HF0.out, HTH0.out, ⟨{ u with ca := ca, cc := cc }, y, x, sa, sc, rfl, rfl, rfl, HWL.out _ x ca cc HFIN.out.fr hset.2.2, hset.1, by have h9 := hset.2.1; rw [HNB.out] at h9; exact h9, HF1.out.trans (by simpa using h), HGT.out, HXE.out.1, HXE.out.2.1, HXE.out.2.2, HCAN.out⟩⟩⟩
  · have hq : (t.fault != 0) = true := by simp [hf]
    clear HPK HPL HCN HFC HWL
    clear hf
    generalize t.fault = f at *
    go_wp2_with (first | (go_at_call 17; refine (HTH.out _ HA0.out.fr).mono ?_; rw [hth]; rintro _ w1 ⟨rfl, hb1⟩; have HA1 := Lib.hid (HA0.out.below hb1); clear hb1; have c0 := HA1.out.cell (.head _) 0; have c1 := HA1.out.cell (.head _) 1; have c2 := HA1.out.cell (.head _) 2; have c3 := HA1.out.cell (.head _) 3) | (go_at_call 21; refine (HFT.out hsm _ HA1.out.fr).mono ?_; rintro _ w2 ⟨rfl, hb2⟩; have HA2 := Lib.hid (HA1.out.below hb2); clear hb2; have d0 := HA2.out.cell (.head _) 0; have d1 := HA2.out.cell (.head _) 1; have d2 := HA2.out.cell (.head _) 2; have d3 := HA2.out.cell (.head _) 3; have rr0 := HA2.out.cell (.tail _ (.head _)) 0; have frr0 := HA2.out.thaw (.tail _ (.head _)) 0; have rr1 := HA2.out.cell (.tail _ (.head _)) 1; have frr1 := HA2.out.thaw (.tail _ (.head _)) 1; have rr2 := HA2.out.cell (.tail _ (.head _)) 2; have frr2 := HA2.out.thaw (.tail _ (.head _)) 2; have rr3 := HA2.out.cell (.tail _ (.head _)) 3; have frr3 := HA2.out.thaw (.tail _ (.head _)) 3; have ss0 : w2.cell? ⟨w.heap.size + 1 + 1, 0, none⟩ = some (.slice none 0 0) := HA2.out.cell (.tail _ (.tail _ (.head _))) 0; have fss0 : w2.frozen? ⟨w.heap.size + 1 + 1, 0, none⟩ = false := HA2.out.thaw (.tail _ (.tail _ (.head _))) 0; have ss1 : w2.cell? ⟨w.heap.size + 1 + 1, 1, none⟩ = some (.slice none 0 0) := HA2.out.cell (.tail _ (.tail _ (.head _))) 1; have fss1 : w2.frozen? ⟨w.heap.size + 1 + 1, 1, none⟩ = false := HA2.out.thaw (.tail _ (.tail _ (.head _))) 1; have ss2 : w2.cell? ⟨w.heap.size + 1 + 1, 2, none⟩ = some (.slice none 0 0) := HA2.out.cell (.tail _ (.tail _ (.head _))) 2; have fss2 : w2.frozen? ⟨w.heap.size + 1 + 1, 2, none⟩ = false := HA2.out.thaw (.tail _ (.tail _ (.head _))) 2; have ss3 : w2.cell? ⟨w.heap.size + 1 + 1, 3, none⟩ = some (.slice none 0 0) := HA2.out.cell (.tail _ (.tail _ (.head _))) 3; have fss3 : w2.frozen? ⟨w.heap.size + 1 + 1, 3, none⟩ = false := HA2.out.thaw (.tail _ (.tail _ (.head _))) 3))
    have HAp3 := Lib.hid (BF.set4 HA2.out (.tail _ (.head _)) (.slice u.ca t.nc u.cc) (.slice u.ba t.nb u.bc) (.slice u.ra t.nr u.rc) (.slice u.na t.nn u.nc) (L' := [(w.heap.size, #[.slice u.ca t.nc u.cc, .slice u.ba t.nb u.bc, .slice u.ra t.nr u.rc, .slice u.na t.nn u.nc], 25), (w.heap.size + 2, #[.slice none 0 0, .slice none 0 0, .slice none 0 0, .slice none 0 0], 75)]) (List.forall_mem_cons.2 ⟨⟨show w.heap.size ≠ w.heap.size + 1 by omega, (.head _)⟩, List.forall_mem_cons.2 ⟨⟨show w.heap.size + 2 ≠ w.heap.size + 1 by omega, (.tail _ (.tail _ (.head _)))⟩, List.forall_mem_nil _⟩⟩))
    have HAp4 := Lib.hid (BF.set4 HAp3.out (.tail _ (.tail _ (.head _))) (.slice none 0 0) (.slice none 0 0) (.slice none 0 0) (.slice none 0 0) (L' := [(w.heap.size + 1, #[.slice u.ca t.nc u.cc, .slice u.ba t.nb u.bc, .slice u.ra t.nr u.rc, .slice u.na t.nn u.nc], 25), (w.heap.size, #[.slice u.ca t.nc u.cc, .slice u.ba t.nb u.bc, .slice u.ra t.nr u.rc, .slice u.na t.nn u.nc], 25)]) (List.forall_mem_cons.2 ⟨⟨show w.heap.size + 1 ≠ w.heap.size + 2 by omega, (.head _)⟩, List.forall_mem_cons.2 ⟨⟨show w.heap.size ≠ w.heap.size + 2 by omega, (.tail _ (.head _))⟩, List.forall_mem_nil _⟩⟩))
    have q0 := HAp4.out.cell (.tail _ (.head _)) 0
    have q1 := HAp4.out.cell (.tail _ (.head _)) 1
    have q2 := HAp4.out.cell (.tail _ (.head _)) 2
    have q3 := HAp4.out.cell (.tail _ (.head _)) 3
    have p0 := HAp4.out.cell (.head _) 0
    have p1 := HAp4.out.cell (.head _) 1
    have p2 := HAp4.out.cell (.head _) 2
    have p3 := HAp4.out.cell (.head _) 3
    have HFIN := HAp4
    generalize ((((((((w2.setCell ⟨w.heap.size + 1, 0, none⟩ (.slice u.ca t.nc u.cc)).setCell ⟨w.heap.size + 1, 1, none⟩ (.slice u.ba t.nb u.bc)).setCell ⟨w.heap.size + 1, 2, none⟩ (.slice u.ra t.nr u.rc)).setCell ⟨w.heap.size + 1, 3, none⟩ (.slice u.na t.nn u.nc)).setCell ⟨w.heap.size + 2, 0, none⟩ (.slice none 0 0)).setCell ⟨w.heap.size + 2, 1, none⟩ (.slice none 0 0)).setCell ⟨w.heap.size + 2, 2, none⟩ (.slice none 0 0)).setCell ⟨w.heap.size + 2, 3, none⟩ (.slice none 0 0)) = wf at *
    refine bodyPost_ret (v := .tuple #[.agg #[.slice u.ca t.nc u.cc, .slice u.ba t.nb u.bc, .slice u.ra t.nr u.rc, .slice u.na t.nn u.nc], .agg #[.slice none 0 0, .slice none 0 0, .slice none 0 0, .slice none 0 0], .slice none 0 0, .bool false]) (by simp [results, Try.results38, go_sem, q0, q1, q2, q3, p0, p1, p2, p3]) rfl ⟨⟨_, _, _, _, _, _, _, _, _, _, _, _⟩, ⟨_, _, _, _, _, _, _, _, _, _, _, _⟩, _, _, rfl, HFIN.out.fr, fun h => absurd h (by decide)⟩
end Go.Proofs.Ytjaoflfophcibaa

namespace Go.Proofs.Ytjaoflfophcibaa
open Go.ChangeShapes Go.WideShapes Go.ChangeAt Go.RowKit

set_option maxRecDepth 100000 in
theorem open_rng {H : Type} {enc : TypeId × Value → H} {W : World} {fuel : Nat} {cs : List Value} {x : DataW H × List MemPlace} (h : DataW.trod enc Try.prog W 0 (fun _ => true) true fuel 43 cs = some x) :
    ∃ r : R2, cs = [.int .i64 r.1, .int .i64 r.2] := by
  obtain ⟨z0, z1, m, _, hl, g0, g1⟩ := trod_struct2 Try.underlying43 h
  have hl2 : cs.length = 2 := hl.trans (by kernel_rfl)
  match cs, hl2 with
  | [c0, c1], _ =>
    have k1 : Try.prog.cellsOf 3 = 1 := by kernel_rfl
    obtain ⟨f, e0, _⟩ := DataW.trod_int Try.underlying3 g0
    obtain ⟨b, e1, _⟩ := DataW.trod_int Try.underlying3 g1
    rw [k1] at e0 e1
    simp at e0 e1
    subst e0 e1
    exact ⟨(f, b), rfl⟩
set_option maxRecDepth 100000 in
theorem open_rngs {H : Type} {enc : TypeId × Value → H} {W : World} {fuel : Nat} {v : Value} {x : DataW H × List MemPlace} (h : DataW.trod enc Try.prog W 0 (fun _ => true) true fuel 23 [v] = some x) :
    ∃ a n cap R, v = .slice a n cap ∧ RsIn W (.slice a n cap) n R ∧ n ≤ cap ∧ n ≤ maxLen := by
  rcases Go.Deep.open_slice Try.underlying23 h with ⟨hcs, _⟩ | ⟨a, len, cap, m, n, D, Pl, hcs, _, hl, hm, hmm, _, hx⟩
  · simp at hcs; subst hcs
    exact ⟨none, 0, 0, fun _ => (0, 0), rfl, .inl ⟨_, _, rfl, rfl⟩, Nat.zero_le _, Nat.zero_le _⟩
  · simp at hcs; subst hcs
    simp only [if_true] at hmm
    subst hmm
    have k : Try.prog.cellsOf 43 = 2 := by kernel_rfl
    rw [k] at hx
    obtain ⟨R, hR⟩ := Go.Deep.choose_lt (α := R2) (n := len) (p := fun i (r : R2) => W.cells? 0 (a.add (i * 2)) 2 = some [.int .i64 r.1, .int .i64 r.2]) (fun i hi => by
      obtain ⟨cs', h1, h2⟩ := hx i (by omega)
      obtain ⟨r, rfl⟩ := open_rng h2
      exact ⟨r, h1⟩)
    rcases Nat.eq_zero_or_pos len with rfl | hpos
    · exact ⟨some a, 0, m, fun _ => (0, 0), rfl, .inl ⟨_, _, rfl, rfl⟩, Nat.zero_le _, Nat.zero_le _⟩
    · have hc0 := (World.cells?_some (hR 0 hpos)).2.2 0 (by omega)
      obtain ⟨b, off, spot⟩ := a
      obtain rfl : spot = none := by simpa [Addr.add] using World.cell?_spot hc0
      have hc : ∀ j, j < len → ∀ i, i < 2 → W.cell? ⟨b, off + j * 2 + i, none⟩ = [Value.int .i64 (R j).1, .int .i64 (R j).2][i]? := fun j hj i hi => by
        have := (World.cells?_some (hR j hj)).2.2 i hi
        rwa [Go.WideShapes.add_plain, Go.WideShapes.add_plain] at this
      have hbs : b < W.heap.size := World.block_lt_of_cell? W ⟨b, off + 0 * 2 + 0, none⟩ (hc 0 hpos 0 (by omega))
      exact ⟨some ⟨b, off, none⟩, len, m, R, rfl, .inr ⟨b, off, _, rfl, hbs, fun j hj => ⟨hc j hj 0 (by omega), hc j hj 1 (by omega)⟩⟩, by omega, by omega⟩
set_option maxRecDepth 100000 in
theorem open_rows {H : Type} {enc : TypeId × Value → H} {W : World} {fuel : Nat} {v : Value} {x : DataW H × List MemPlace} (h : DataW.trod enc Try.prog W 0 (fun _ => true) true fuel 22 [v] = some x) :
    ∃ a n cap rl ct, v = .slice a n cap ∧ RowsIn W (.slice a n cap) n rl ct ∧ n ≤ cap ∧ n ≤ maxLen ∧ (∀ c, rl c ≤ maxLen) ∧ ∀ c, n ≤ c → rl c = 0 := by
  rcases Go.Deep.open_slice Try.underlying22 h with ⟨hcs, _⟩ | ⟨a, len, cap, m, n, D, Pl, hcs, _, hl, hm, hmm, _, hx⟩
  · simp at hcs; subst hcs
    exact ⟨none, 0, 0, fun _ => 0, fun _ _ => (0, 0), rfl, .inl ⟨_, _, rfl, rfl⟩, Nat.zero_le _, Nat.zero_le _, fun _ => Nat.zero_le _, fun _ _ => rfl⟩
  · simp at hcs; subst hcs
    simp only [if_true] at hmm
    subst hmm
    have k : Try.prog.cellsOf 23 = 1 := by kernel_rfl
    rw [k] at hx
    obtain ⟨F, hF⟩ := Go.Deep.choose_lt (α := Value × Nat × (Nat → R2)) (n := len) (p := fun i (r : Value × Nat × (Nat → R2)) => W.cells? 0 (a.add (i * 1)) 1 = some [r.1] ∧ RsIn W r.1 r.2.1 r.2.2 ∧ r.2.1 ≤ maxLen) (fun i hi => by
      obtain ⟨cs', h1, h2⟩ := hx i (by omega)
      have hl1 : cs'.length = 1 := (World.cells?_some h1).2.1
      match cs', hl1, h1, h2 with
      | [rv], _, h1, h2 =>
        obtain ⟨a', n', cap', R, rfl, h3, _, h4⟩ := open_rngs h2
        exact ⟨(_, n', R), h1, h3, h4⟩)
    rcases Nat.eq_zero_or_pos len with rfl | hpos
    · exact ⟨some a, 0, m, fun _ => 0, fun _ _ => (0, 0), rfl, .inl ⟨_, _, rfl, rfl⟩, Nat.zero_le _, Nat.zero_le _, fun _ => Nat.zero_le _, fun _ _ => rfl⟩
    · have hc0 := (World.cells?_some (hF 0 hpos).1).2.2 0 (by omega)
      obtain ⟨b, off, spot⟩ := a
      obtain rfl : spot = none := by simpa [Addr.add] using World.cell?_spot hc0
      have hc : ∀ j, j < len → W.cell? ⟨b, off + j * 1 + 0, none⟩ = some (F j).1 := fun j hj => by
        have := (World.cells?_some (hF j hj).1).2.2 0 (by omega)
        rwa [Go.WideShapes.add_plain, Go.WideShapes.add_plain] at this
      have hbs : b < W.heap.size := World.block_lt_of_cell? W ⟨b, off + 0 * 1 + 0, none⟩ (hc 0 hpos)
      refine ⟨some ⟨b, off, none⟩, len, m, fun c => if c < len then (F c).2.1 else 0, fun c => (F c).2.2, rfl, .inr ⟨b, off, _, rfl, hbs, fun j hj => ⟨(F j).1, ?_, ?_⟩⟩, by omega, by omega, fun c => ?_, fun c hc => if_neg (by omega)⟩
      · have h := hc j hj; rw [Nat.mul_one, Nat.add_zero] at h; exact h
      · show RsIn W (F j).1 (if j < len then (F j).2.1 else 0) (F j).2.2
        rw [if_pos hj]; exact (hF j hj).2.1
      · show (if c < len then (F c).2.1 else 0) ≤ maxLen
        split
        · rename_i hj; exact (hF c hj).2.2
        · exact Nat.zero_le _
/-- What a law's table is. -/
structure TbLaw (W : World) (u : WV) (t : Tb) : Prop where
  l : WLi W u t
  big : t.big
  z : ∀ c, t.nc ≤ c → t.rl c = 0
  cc : t.nc ≤ u.cc
  cb : t.nb ≤ u.bc
set_option maxRecDepth 100000 in
theorem open_table {H : Type} {enc : TypeId × Value → H} {W : World} {base : Nat} {v : Value} {d : DataW H} {p : List MemPlace} (hv : Value.okWide Try.prog W .any base 25 v) (h : DataW.Trod enc Try.prog W 0 (fun _ => true) true 25 v d p) :
    ∃ u t, v = .agg #[u.cv t, u.bv t, u.rv t, u.nv t] ∧ TbLaw W u t := by
  obtain ⟨cs, rfl, hsz⟩ := okWide_struct Try.underlying25 hv
  obtain ⟨c0, c1, c2, c3, rfl⟩ := Go.Joins.array4 (hsz.trans (by kernel_rfl))
  obtain ⟨fuel, hf⟩ := h
  obtain ⟨y0, y1, y2, y3, n, _, _, h0, h1, h2, h3⟩ := Go.Joins.trod_struct4 Try.underlying25 hf
  have k23 : Try.prog.cellsOf 23 = 1 := by kernel_rfl
  have k22 : Try.prog.cellsOf 22 = 1 := by kernel_rfl
  simp only [Value.cells, k22, k23, List.drop, List.take] at h0 h1 h2 h3
  obtain ⟨a0, n0, p0, rl, ct, rfl, q0, s0, m0, mr, mz⟩ := open_rows h0
  obtain ⟨a1, n1, p1, R1, rfl, q1, s1, m1⟩ := open_rngs h1
  obtain ⟨a2, n2, p2, R2, rfl, q2, s2, m2⟩ := open_rngs h2
  obtain ⟨a3, n3, p3, R3, rfl, q3, s3, m3⟩ := open_rngs h3
  exact ⟨⟨a0, p0, a1, p1, a2, p2, a3, p3⟩, ⟨n0, rl, ct, n1, R1, n2, R2, n3, R3⟩, rfl, ⟨q0, q1, q2, q3⟩, ⟨m0, mr, m1, m2, m3⟩, mz, s0, s1⟩
set_option maxRecDepth 100000 in
theorem open_range {H : Type} {enc : TypeId × Value → H} {W : World} {base : Nat} {v : Value} {d : DataW H} {p : List MemPlace} (hv : Value.okWide Try.prog W .any base 43 v) (h : DataW.Trod enc Try.prog W 0 (fun _ => true) true 43 v d p) :
    ∃ lo hi : Int, v = .agg #[.int .i64 lo, .int .i64 hi] := by
  obtain ⟨cs, rfl, hsz⟩ := okWide_struct Try.underlying43 hv
  have hsz2 : cs.size = 2 := hsz.trans (by kernel_rfl)
  obtain ⟨fuel, hf⟩ := h
  obtain ⟨z0, z1, m, _, _, g0, g1⟩ := trod_struct2 Try.underlying43 hf
  have k1 : Try.prog.cellsOf 3 = 1 := by kernel_rfl
  match cs, hsz2 with
  | ⟨[c0, c1]⟩, _ =>
    simp only [Value.cells, k1, List.drop, List.take] at g0 g1
    obtain ⟨lo, e0, _⟩ := DataW.trod_int Try.underlying3 g0
    obtain ⟨hi, e1, _⟩ := DataW.trod_int Try.underlying3 g1
    simp at e0 e1
    subst e0 e1
    exact ⟨lo, hi, rfl⟩
set_option maxRecDepth 100000 in
theorem open_wordsIn {H : Type} {enc : TypeId × Value → H} {W : World} {base : Nat} {v : Value} {d : DataW H} {p : List MemPlace} (hv : Value.okWide Try.prog W .any base 71 v) (h : DataW.Trod enc Try.prog W 0 (fun _ => true) true 71 v d p) :
    ∃ n z, WordsIn W v n z ∧ n ≤ maxLen := by
  obtain ⟨a0, len, cap, rfl⟩ := Go.WideShapes.okWide_slice Try.underlying71 hv
  obtain ⟨fuel, hf⟩ := h
  rcases Go.ChangeShapes.open_ints Try.underlying71 Try.underlying78 (by kernel_rfl) hf with ⟨hcs, hx⟩ | ⟨a, len', cap', zs, hcs, _, hl, hm, hz, hx, hcell, hwz⟩
  · simp [Value.cells] at hcs
    obtain ⟨rfl, rfl, rfl⟩ := hcs
    exact ⟨0, fun _ => 0, .inl ⟨_, _, rfl, rfl⟩, Nat.zero_le _⟩
  · simp [Value.cells] at hcs
    obtain ⟨rfl, rfl, rfl⟩ := hcs
    simp only [if_true] at hz
    rcases Nat.eq_zero_or_pos len with rfl | hpos
    · exact ⟨0, fun _ => 0, .inl ⟨_, cap, rfl, rfl⟩, Nat.zero_le _⟩
    · obtain ⟨b, off, rfl, hc⟩ := ints_at hcell (by omega)
      have hbs : b < W.heap.size := World.block_lt_of_cell? W ⟨b, off + 0, none⟩ (hc 0 (by omega))
      refine ⟨len, fun j => zs.getD j 0, .inr ⟨b, off, cap, rfl, hbs, fun j hj => ⟨hc j (by omega), ?_⟩⟩, by omega⟩
      have := hwz (zs.getD j 0) (by
        have e : zs.getD j 0 = zs[j]'(by omega) := by simp [show j < zs.length by omega]
        rw [e]; exact List.getElem_mem _)
      exact bounds_u16 this
end Go.Proofs.Ytjaoflfophcibaa
