/- Link: LinkMatches' walk. Printed by gen_oh.py. -/
import Derived.Test.YtgbdbikjckfgmaaGreatOC
import Derived.Test.YtgbdbikjckfgmaaGreatOG
namespace Go.Proofs.YtgbdbikjckfgmaaGreat
open Go.RowKit Go.Shelf

/-- Two own rows of one type. -/
structure Two (base : Nat) (X : World) (T : TypeId) (sz : Nat) (v1 : Value) (n1 : Nat) (x1 : List Value) (v2 : Value) (n2 : Nat) (x2 : List Value) : Prop where
  o1 : X.ownsRow base T sz v1 n1 x1
  o2 : X.ownsRow base T sz v2 n2 x2
  dis : ∀ k, v1.ownBlock = some k → v2.ownBlock ≠ some k
section
variable {base : Nat} {X Y : World} {T : TypeId} {sz n1 n2 : Nat} {v1 v2 : Value} {x1 x2 : List Value}
theorem Two.nil : Two base X T sz (.slice none 0 0) 0 [] (.slice none 0 0) 0 [] := ⟨World.ownsRow_nil _ _ _ _, World.ownsRow_nil _ _ _ _, fun k e => by cases e⟩
theorem Two.below (h : Two base X T sz v1 n1 x1 v2 n2 x2) (hb : Below X.heap.size X Y) : Two base Y T sz v1 n1 x1 v2 n2 x2 := ⟨own_below h.o1 hb, own_below h.o2 hb, h.dis⟩
theorem Two.app1 {v : Value} {n : Nat} {xs : List Value} (h : Two base X T sz v1 n1 x1 v2 n2 x2) (ho : Y.ownsRow base T sz v n xs) (hg : X.grownBy Y v1.ownBlock) (hl : v.ownBlock = v1.ownBlock ∨ v.ownBlock = some X.heap.size) : Two base Y T sz v n xs v2 n2 x2 :=
  ⟨ho, own_fr h.o2 (Fr.grown hg) (fun k _ e1 _ _ e2 => h.dis k e2 e1), fun k e1 e2 => by
    rcases hl with e | e
    · exact h.dis k (e ▸ e1) e2
    · rw [e] at e1
      have := own_lt h.o2 e2
      have := Option.some.inj e1
      omega⟩
theorem Two.swap (h : Two base X T sz v1 n1 x1 v2 n2 x2) : Two base X T sz v2 n2 x2 v1 n1 x1 := ⟨h.o2, h.o1, fun k e1 e2 => h.dis k e2 e1⟩
end
theorem filter_le {q1 q2 : Nat → Bool} : ∀ {l : List Nat}, (∀ k, k ∈ l → q1 k = true → q2 k = true) → (l.filter q1).length ≤ (l.filter q2).length ∧ ((l.filter q1).length = (l.filter q2).length → ∀ k, k ∈ l → q1 k = q2 k)
  | [], _ => ⟨Nat.le_refl _, fun _ k hk => absurd hk List.not_mem_nil⟩
  | x :: l, h => by
    obtain ⟨h1, h2⟩ := filter_le (l := l) fun k hk => h k (List.mem_cons_of_mem _ hk)
    have hx := h x List.mem_cons_self
    rw [List.filter_cons, List.filter_cons]
    cases e1 : q1 x <;> cases e2 : q2 x
    · refine ⟨by simpa using h1, fun e k hk => ?_⟩
      rcases List.mem_cons.1 hk with rfl | hk
      · rw [e1, e2]
      · exact h2 (by simpa using e) k hk
    · refine ⟨by simp; omega, fun e => ?_⟩
      simp at e; omega
    · rw [hx e1] at e2; cases e2
    · refine ⟨by simpa using h1, fun e k hk => ?_⟩
      rcases List.mem_cons.1 hk with rfl | hk
      · rw [e1, e2]
      · exact h2 (by simpa using e) k hk
theorem dL_le {q1 q2 : Nat → Nat → Bool} {nw : Nat} (h : ∀ i k, q1 i k = true → q2 i k = true) : ∀ n, (dL q1 nw n).length ≤ (dL q2 nw n).length ∧ ((dL q1 nw n).length = (dL q2 nw n).length → ∀ i k, i < n → k < nw → q1 i k = q2 i k)
  | 0 => ⟨Nat.le_refl _, fun _ i k hi => absurd hi (Nat.not_lt_zero i)⟩
  | n + 1 => by
    obtain ⟨h1, h2⟩ := dL_le (nw := nw) h n
    obtain ⟨h3, h4⟩ := filter_le (q1 := q1 n) (q2 := q2 n) (l := List.range nw) fun k _ => h n k
    have e1 : (dR q1 n nw).length = ((List.range nw).filter (q1 n)).length := by unfold dR; rw [List.length_map]
    have e2 : (dR q2 n nw).length = ((List.range nw).filter (q2 n)).length := by unfold dR; rw [List.length_map]
    rw [dL_succ, dL_succ, List.length_append, List.length_append, e1, e2]
    refine ⟨by omega, fun e i k hi hk => ?_⟩
    rcases Nat.lt_succ_iff_lt_or_eq.1 hi with hi | rfl
    · exact h2 (by omega) i k hi hk
    · exact h4 (by omega) k (List.mem_range.2 hk)
def Fl.qS (f : Fl) (i k : Nat) : Bool := f.g i k && f.sure i k
def Fl.qP (f : Fl) (i k : Nat) : Bool := f.g i k && f.poss i k
theorem OkF.qSP {f : Fl} (h : OkF f) (i k : Nat) (e : f.qS i k = true) : f.qP i k = true := by
  unfold Fl.qS at e; unfold Fl.qP
  rw [Bool.and_eq_true] at e ⊢
  exact ⟨e.1, h.sure_poss e.2⟩
theorem OkF.only_iff {f : Fl} (h : OkF f) : f.only = true ↔ (dL f.qS f.nw f.no).length = (dL f.qP f.nw f.no).length := by
  constructor
  · intro ho
    rw [dL_congr (q := f.qS) (q' := f.qP)]
    intro i k hi hk
    cases hq : f.qP i k
    · cases hs : f.qS i k
      · rfl
      · rw [h.qSP i k hs] at hq; cases hq
    · unfold Fl.qP at hq
      rw [Bool.and_eq_true] at hq
      have e := h.only_poss ho hq.1 hq.2
      unfold Fl.only at ho
      have h2 := allB_all ho i hi
      rw [e, Bool.or_eq_true, Int.toNat_natCast] at h2
      rcases h2 with h2 | h2
      · exact absurd (of_decide_eq_true h2) (by omega)
      · unfold Fl.qS; rw [hq.1, h2]; rfl
  · intro e
    have h2 := (dL_le (nw := f.nw) h.qSP f.no).2 e
    unfold Fl.only
    refine allB_true fun i hi => ?_
    rcases h.lst_or i with e1 | ⟨k, e1⟩
    · rw [e1]; rfl
    · have hg := h.lst_g e1
      have hp := h.lst_poss e1
      have h3 := h2 i k hi (Fl.g_in hg).2
      unfold Fl.qS Fl.qP at h3
      rw [hg, hp] at h3
      rw [e1, Int.toNat_natCast, (by simpa using h3 : f.sure i k = true), Bool.or_true]
theorem OkF.rS {f : Fl} (h : OkF f) (i k : Nat) : (f.g i k && decide (mostR (offG f.g (oneS i k)) < mostR f.g)) = f.qS i k := by unfold Fl.qS; exact h.rSure i k
theorem OkF.rP {f : Fl} (h : OkF f) (i k : Nat) : (f.g i k && decide (1 + mostR (offG f.g (twoS i k)) = mostR f.g)) = f.qP i k := by unfold Fl.qP; exact h.rPoss i k
theorem isSureQ {f : Fl} (OK : OkF f) (i k : Nat) (X : World) (hi : i < 8) (hk : k < 8) : Calls Tryz.prog 45 #[.agg (a8 (gI f.g)), .int .i64 (i : Int), .int .i64 (k : Int)] X fun e w' => e = .returned (.bool (f.qS i k)) ∧ Below X.heap.size X w' := by
  rw [← OK.rS]
  exact isSure_any f.g i k X hi hk
theorem isPossQ {f : Fl} (OK : OkF f) (i k : Nat) (X : World) (hi : i < 8) (hk : k < 8) : Calls Tryz.prog 46 #[.agg (a8 (gI f.g)), .int .i64 (i : Int), .int .i64 (k : Int)] X fun e w' => e = .returned (.bool (f.qP i k)) ∧ Below X.heap.size X w' := by
  rw [← OK.rP]
  exact isPoss_any f.g i k X hi hk
theorem isMatchQ (x : FV) {f : Fl} (OK : OkF f) (hf : f.fault = 0) (a : Option Addr) (c : Nat) (X : World) (hl : IntsIn X (.slice a f.no c) f.no f.lst) : Calls Tryz.prog 44 #[.agg #[.slice x.oa f.no x.oc, .slice x.na f.nw x.nc, .slice x.ma f.nm x.mc], .agg (a8 (gI f.g)), .slice a f.no c] X fun e w' => e = .returned (.tuple #[.bool true, .int .i64 (f.most : Int)]) ∧ Below X.heap.size X w' := by
  have h := isMatch_any x f a f.no c f.lst X hf hl (by have := OK.no; omega)
  rw [OK.lst_isM, if_pos rfl, OK.lst_mt.2] at h
  exact h
theorem chL_S (f : Fl) : chL f f.sure f.no = dL f.qS f.nw f.no := (dL_ch f f.sure f.no).symm
theorem chL_P (f : Fl) : chL f f.poss f.no = dL f.qP f.nw f.no := (dL_ch f f.poss f.no).symm

set_option maxRecDepth 100000 in
set_option maxHeartbeats 32000000 in
theorem linkMatches_thick (x : FV) (f : Fl) (w : World) (h : FlQ QR w x f) (ht : f.thin = false) :
    Calls Tryz.prog 12 #[.agg #[.slice x.oa f.no x.oc, .slice x.na f.nw x.nc, .slice x.ma f.nm x.mc]] w fun e w' => e = .returned (.bool true) ∧ Below w.heap.size w w' := by
  obtain ⟨oa, oc, na, nc, ma, mc⟩ := x
  have HTH := Lib.hid (thinW ⟨oa, oc, na, nc, ma, mc⟩ f w h false ht)
  clear h ht
  dsimp only at HTH ⊢
  generalize f.no = no at *
  generalize f.nw = nw at *
  generalize f.nm = nm at *
  have HA := Lib.hid ((BF.base w).alloc #[.slice oa no oc, .slice na nw nc, .slice ma nm mc] 25)
  go_enter Tryz.func12, Tryz.ntmps12
  have c0 := HA.out.cell (.head _) 0
  have c1 := HA.out.cell (.head _) 1
  have c2 := HA.out.cell (.head _) 2
  go_wp2_with fail
  refine (HTH.out _ HA.out.fr).mono ?_
  rintro _ w1 ⟨rfl, hb⟩
  have HA' := Lib.hid (HA.out.below hb)
  clear HA
  have HA := HA'
  clear HA'
  clear hb c0 c1 c2
  go_wp2_with fail
  refine (awake5_any _).mono ?_
  rintro _ w2 ⟨rfl, hb⟩
  have HA' := Lib.hid (HA.out.below hb)
  clear HA
  have HA := HA'
  clear HA'
  clear hb
  go_wp2_with fail
  go_ret
  exact ⟨rfl, HA.out.fr⟩
set_option maxRecDepth 100000 in
set_option maxHeartbeats 32000000 in
theorem linkMatches_bad (x : FV) (f : Fl) (w : World) (h : FlQ QR w x f) (ht : f.thin = true) (hf : f.fault ≠ 0) :
    Calls Tryz.prog 12 #[.agg #[.slice x.oa f.no x.oc, .slice x.na f.nw x.nc, .slice x.ma f.nm x.mc]] w fun e w' => e = .returned (.bool true) ∧ Below w.heap.size w w' := by
  obtain ⟨oa, oc, na, nc, ma, mc⟩ := x
  have HTH := Lib.hid (thinW ⟨oa, oc, na, nc, ma, mc⟩ f w h true ht)
  have HFI := Lib.hid (fileW ⟨oa, oc, na, nc, ma, mc⟩ f w h ht)
  have HC1 : Hid (∀ (z : FV) X, FlQ QP X z f → Calls Tryz.prog 42 #[.agg #[.slice z.oa f.no z.oc, .slice z.na f.nw z.nc, .slice z.ma f.nm z.mc]] X fun e w' => e = .returned (.tuple #[.int .i64 0, .int .i64 f.fault]) ∧ Below X.heap.size X w') := fun z X hq => mostF_bad z f X hq (by have := (thin_bd ht).1; omega) (by have := (thin_bd ht).2.1; omega) (by have := (thin_bd ht).2.2.1; omega) hf
  have HC2 : Hid (∀ (z : FV) X, FlQ QP X z f → Calls Tryz.prog 43 #[.agg #[.slice z.oa f.no z.oc, .slice z.na f.nw z.nc, .slice z.ma f.nm z.mc]] X fun e w' => e = .returned (.tuple #[.slice none 0 0, .int .i64 f.fault]) ∧ Below X.heap.size X w') := fun z X hq => matchF_bad z f X hq (by have := (thin_bd ht).1; omega) (by have := (thin_bd ht).2.1; omega) (by have := (thin_bd ht).2.2.1; omega) hf
  have HC3 : Hid (∀ (z : FV) X, FlQ QP X z f → Calls Tryz.prog 38 #[.agg #[.slice z.oa f.no z.oc, .slice z.na f.nw z.nc, .slice z.ma f.nm z.mc]] X fun e w' => e = .returned (.tuple #[.slice none 0 0, .int .i64 f.fault]) ∧ Below X.heap.size X w') := fun z X hq => onlyF_bad z f X hq (by have := (thin_bd ht).1; omega) (by have := (thin_bd ht).2.1; omega) (by have := (thin_bd ht).2.2.1; omega) hf
  have HC4 : Hid (∀ (z : FV) X, FlQ QP X z f → Calls Tryz.prog 37 #[.agg #[.slice z.oa f.no z.oc, .slice z.na f.nw z.nc, .slice z.ma f.nm z.mc]] X fun e w' => e = .returned (.tuple #[.slice none 0 0, .int .i64 f.fault]) ∧ Below X.heap.size X w') := fun z X hq => sureF_bad z f X hq (by have := (thin_bd ht).1; omega) (by have := (thin_bd ht).2.1; omega) (by have := (thin_bd ht).2.2.1; omega) hf
  have HC5 : Hid (∀ (z : FV) X, FlQ QP X z f → Calls Tryz.prog 35 #[.agg #[.slice z.oa f.no z.oc, .slice z.na f.nw z.nc, .slice z.ma f.nm z.mc]] X fun e w' => e = .returned (.tuple #[.slice none 0 0, .int .i64 f.fault]) ∧ Below X.heap.size X w') := fun z X hq => possF_bad z f X hq (by have := (thin_bd ht).1; omega) (by have := (thin_bd ht).2.1; omega) (by have := (thin_bd ht).2.2.1; omega) hf
  have HFA := Lib.hid (faultW ⟨oa, oc, na, nc, ma, mc⟩ f w h f.fault rfl)
  have kf : (f.fault != 0) = true := by simp [hf]
  clear h ht hf
  dsimp only at HTH HFI HFA ⊢
  generalize f.fault = ft at *
  generalize f.no = no at *
  generalize f.nw = nw at *
  generalize f.nm = nm at *
  have HA := Lib.hid ((BF.base w).alloc #[.slice oa no oc, .slice na nw nc, .slice ma nm mc] 25)
  go_enter Tryz.func12, Tryz.ntmps12
  have c0 := HA.out.cell (.head _) 0
  have c1 := HA.out.cell (.head _) 1
  have c2 := HA.out.cell (.head _) 2
  go_wp2_with fail
  refine (HTH.out _ HA.out.fr).mono ?_
  rintro _ w1 ⟨rfl, hb⟩
  have HA' := Lib.hid (HA.out.below hb)
  clear HA
  have HA := HA'
  clear HA'
  clear hb c0 c1 c2
  have c0 := HA.out.cell (.head _) 0
  have c1 := HA.out.cell (.head _) 1
  have c2 := HA.out.cell (.head _) 2
  go_wp2_with fail
  refine (HFI.out _ HA.out.fr).mono ?_
  rintro _ w2 ⟨z, rfl, hq, hb⟩
  have HA' := Lib.hid (HA.out.below hb)
  clear HA
  have HA := HA'
  clear HA'
  have HQ := Lib.hid hq
  clear hq hb c0 c1 c2
  go_wp2_with fail
  refine (HC1.out z _ HQ.out).mono ?_
  rintro _ w3 ⟨rfl, hb⟩
  have HA' := Lib.hid (HA.out.below hb)
  clear HA
  have HA := HA'
  clear HA'
  clear hb
  clear HQ
  have c0 := HA.out.cell (.head _) 0
  have c1 := HA.out.cell (.head _) 1
  have c2 := HA.out.cell (.head _) 2
  go_wp2_with fail
  refine (HFI.out _ HA.out.fr).mono ?_
  rintro _ w4 ⟨z, rfl, hq, hb⟩
  have HA' := Lib.hid (HA.out.below hb)
  clear HA
  have HA := HA'
  clear HA'
  have HQ := Lib.hid hq
  clear hq hb c0 c1 c2
  go_wp2_with fail
  refine (HC2.out z _ HQ.out).mono ?_
  rintro _ w5 ⟨rfl, hb⟩
  have HA' := Lib.hid (HA.out.below hb)
  clear HA
  have HA := HA'
  clear HA'
  clear hb
  clear HQ
  have c0 := HA.out.cell (.head _) 0
  have c1 := HA.out.cell (.head _) 1
  have c2 := HA.out.cell (.head _) 2
  go_wp2_with fail
  refine (HFI.out _ HA.out.fr).mono ?_
  rintro _ w6 ⟨z, rfl, hq, hb⟩
  have HA' := Lib.hid (HA.out.below hb)
  clear HA
  have HA := HA'
  clear HA'
  have HQ := Lib.hid hq
  clear hq hb c0 c1 c2
  go_wp2_with fail
  refine (HC3.out z _ HQ.out).mono ?_
  rintro _ w7 ⟨rfl, hb⟩
  have HA' := Lib.hid (HA.out.below hb)
  clear HA
  have HA := HA'
  clear HA'
  clear hb
  clear HQ
  have c0 := HA.out.cell (.head _) 0
  have c1 := HA.out.cell (.head _) 1
  have c2 := HA.out.cell (.head _) 2
  go_wp2_with fail
  refine (HFI.out _ HA.out.fr).mono ?_
  rintro _ w8 ⟨z, rfl, hq, hb⟩
  have HA' := Lib.hid (HA.out.below hb)
  clear HA
  have HA := HA'
  clear HA'
  have HQ := Lib.hid hq
  clear hq hb c0 c1 c2
  go_wp2_with fail
  refine (HC4.out z _ HQ.out).mono ?_
  rintro _ w9 ⟨rfl, hb⟩
  have HA' := Lib.hid (HA.out.below hb)
  clear HA
  have HA := HA'
  clear HA'
  clear hb
  clear HQ
  have c0 := HA.out.cell (.head _) 0
  have c1 := HA.out.cell (.head _) 1
  have c2 := HA.out.cell (.head _) 2
  go_wp2_with fail
  refine (HFI.out _ HA.out.fr).mono ?_
  rintro _ w10 ⟨z, rfl, hq, hb⟩
  have HA' := Lib.hid (HA.out.below hb)
  clear HA
  have HA := HA'
  clear HA'
  have HQ := Lib.hid hq
  clear hq hb c0 c1 c2
  go_wp2_with fail
  refine (HC5.out z _ HQ.out).mono ?_
  rintro _ w11 ⟨rfl, hb⟩
  have HA' := Lib.hid (HA.out.below hb)
  clear HA
  have HA := HA'
  clear HA'
  clear hb
  clear HQ
  have c0 := HA.out.cell (.head _) 0
  have c1 := HA.out.cell (.head _) 1
  have c2 := HA.out.cell (.head _) 2
  go_wp2_with fail
  refine (HFA.out _ HA.out.fr).mono ?_
  rintro _ w12 ⟨rfl, hb⟩
  have HA' := Lib.hid (HA.out.below hb)
  clear HA
  have HA := HA'
  clear HA'
  clear hb c0 c1 c2
  go_wp2_with fail
  refine (awake5_any _).mono ?_
  rintro _ w13 ⟨rfl, hb⟩
  have HA' := Lib.hid (HA.out.below hb)
  clear HA
  have HA := HA'
  clear HA'
  clear hb
  go_wp2_with fail
  go_ret
  exact ⟨rfl, HA.out.fr⟩
set_option maxRecDepth 100000 in
set_option maxHeartbeats 32000000 in
theorem linkMatches_one (x : FV) (f : Fl) (w : World) (h : FlQ QR w x f) (ht : f.thin = true) (hf : f.fault = 0) (hon : f.only = true) :
    Calls Tryz.prog 12 #[.agg #[.slice x.oa f.no x.oc, .slice x.na f.nw x.nc, .slice x.ma f.nm x.mc]] w fun e w' => e = .returned (.bool true) ∧ Below w.heap.size w w' := by
  obtain ⟨oa, oc, na, nc, ma, mc⟩ := x
  have OK := Lib.hid (Fl.ok hf)
  have hno := OK.out.no
  have hnw := OK.out.nw
  obtain ⟨i0, hi0, hz0, hz1, hz2⟩ := info_parts Tryz.infoPairR
  have HTH := Lib.hid (thinW ⟨oa, oc, na, nc, ma, mc⟩ f w h true ht)
  have HFI := Lib.hid (fileW ⟨oa, oc, na, nc, ma, mc⟩ f w h ht)
  have HC1 : Hid (∀ (z : FV) X, FlQ QP X z f → Calls Tryz.prog 42 #[.agg #[.slice z.oa f.no z.oc, .slice z.na f.nw z.nc, .slice z.ma f.nm z.mc]] X fun e w' => e = .returned (.tuple #[.int .i64 (f.most : Int), .int .i64 0]) ∧ Below X.heap.size X w') := fun z X hq => mostF_ok z f X hq hf
  have HC2 : Hid (∀ (z : FV) X, FlQ QP X z f → Calls Tryz.prog 43 #[.agg #[.slice z.oa f.no z.oc, .slice z.na f.nw z.nc, .slice z.ma f.nm z.mc]] X (GivesT X f.no f.lst)) := fun z X hq => matchF_ok z f X hq hf
  have HC3 : Hid (∀ (z : FV) X, FlQ QP X z f → Calls Tryz.prog 38 #[.agg #[.slice z.oa f.no z.oc, .slice z.na f.nw z.nc, .slice z.ma f.nm z.mc]] X (GivesT X f.no f.lst)) := fun z X hq => (onlyF_ok z f X hq hf).mono fun e w2 h => h.elim (fun q => q.2) (fun q => absurd (hon.symm.trans q.1) (by decide))
  have HC4 : Hid (∀ (z : FV) X, FlQ QP X z f → Calls Tryz.prog 37 #[.agg #[.slice z.oa f.no z.oc, .slice z.na f.nw z.nc, .slice z.ma f.nm z.mc]] X (GivesP X (dL f.qS f.nw f.no))) := fun z X hq => by rw [← chL_S]; exact sureF_ok z f X hq hf
  have HC5 : Hid (∀ (z : FV) X, FlQ QP X z f → Calls Tryz.prog 35 #[.agg #[.slice z.oa f.no z.oc, .slice z.na f.nw z.nc, .slice z.ma f.nm z.mc]] X (GivesP X (dL f.qP f.nw f.no))) := fun z X hq => by rw [← chL_P]; exact possF_ok z f X hq hf
  have HFA := Lib.hid (faultW ⟨oa, oc, na, nc, ma, mc⟩ f w h 0 hf)
  have HGR := Lib.hid (graphedW ⟨oa, oc, na, nc, ma, mc⟩ f w h hf)
  have HMG := Lib.hid (fun X => mostR_any f.g X)
  rw [OK.out.rMost] at HMG
  have HIM := Lib.hid (fun a c X hl => isMatchQ ⟨oa, oc, na, nc, ma, mc⟩ OK.out hf a c X hl)
  have HIS := Lib.hid (fun i k X hi hk => isSureQ OK.out i k X hi hk)
  have HIP := Lib.hid (fun i k X hi hk => isPossQ OK.out i k X hi hk)
  have HLL : Hid ((dL f.qS f.nw f.no).length = (dL f.qP f.nw f.no).length) := OK.out.only_iff.1 hon
  unfold GivesP at HC4 HC5
  unfold GivesT at HC2 HC3
  clear h ht hf OK hon
  dsimp only at HTH HFI HFA HGR HIM ⊢
  generalize f.qS = q1 at *
  generalize f.qP = q2 at *
  generalize f.lst = ls at *
  generalize f.most = mst at *
  generalize f.g = g at *
  generalize f.no = no at *
  generalize f.nw = nw at *
  generalize f.nm = nm at *
  have HA := Lib.hid ((BF.base w).alloc #[.slice oa no oc, .slice na nw nc, .slice ma nm mc] 25)
  go_enter Tryz.func12, Tryz.ntmps12
  have c0 := HA.out.cell (.head _) 0
  have c1 := HA.out.cell (.head _) 1
  have c2 := HA.out.cell (.head _) 2
  go_wp2_with fail
  refine (HTH.out _ HA.out.fr).mono ?_
  rintro _ w1 ⟨rfl, hb⟩
  have HA' := Lib.hid (HA.out.below hb)
  clear HA
  have HA := HA'
  clear HA'
  clear hb c0 c1 c2
  have c0 := HA.out.cell (.head _) 0
  have c1 := HA.out.cell (.head _) 1
  have c2 := HA.out.cell (.head _) 2
  go_wp2_with fail
  refine (HFI.out _ HA.out.fr).mono ?_
  rintro _ w2 ⟨z, rfl, hq, hb⟩
  have HA' := Lib.hid (HA.out.below hb)
  clear HA
  have HA := HA'
  clear HA'
  have HQ := Lib.hid hq
  clear hq hb c0 c1 c2
  go_wp2_with fail
  refine (HC1.out z _ HQ.out).mono ?_
  rintro _ w3 ⟨rfl, hb⟩
  have HA' := Lib.hid (HA.out.below hb)
  clear HA
  have HA := HA'
  clear HA'
  clear hb
  clear HQ
  have c0 := HA.out.cell (.head _) 0
  have c1 := HA.out.cell (.head _) 1
  have c2 := HA.out.cell (.head _) 2
  go_wp2_with fail
  refine (HFI.out _ HA.out.fr).mono ?_
  rintro _ w4 ⟨z, rfl, hq, hb⟩
  have HA' := Lib.hid (HA.out.below hb)
  clear HA
  have HA := HA'
  clear HA'
  have HQ := Lib.hid hq
  clear hq hb c0 c1 c2
  go_wp2_with fail
  refine (HC2.out z _ HQ.out).mono ?_
  rintro _ w5 ⟨ma2, mc2, rfl, hl, hb⟩
  have HA' := Lib.hid (HA.out.below hb)
  clear HA
  have HA := HA'
  clear HA'
  have HLS := Lib.hid hl
  clear hl
  clear hb
  clear HQ
  have c0 := HA.out.cell (.head _) 0
  have c1 := HA.out.cell (.head _) 1
  have c2 := HA.out.cell (.head _) 2
  go_wp2_with fail
  refine (HFI.out _ HA.out.fr).mono ?_
  rintro _ w6 ⟨z, rfl, hq, hb⟩
  have HA' := Lib.hid (HA.out.below hb)
  clear HA
  have HA := HA'
  clear HA'
  have HLS' := Lib.hid (HLS.out.below hb)
  clear HLS
  have HLS := HLS'
  clear HLS'
  have HQ := Lib.hid hq
  clear hq hb c0 c1 c2
  go_wp2_with fail
  refine (HC3.out z _ HQ.out).mono ?_
  rintro _ w7 ⟨on2, oc2, rfl, ho, hb⟩
  have HA' := Lib.hid (HA.out.below hb)
  clear HA
  have HA := HA'
  clear HA'
  have HLS' := Lib.hid (HLS.out.below hb)
  clear HLS
  have HLS := HLS'
  clear HLS'
  have HON := Lib.hid ho
  clear ho
  clear hb
  clear HQ
  have c0 := HA.out.cell (.head _) 0
  have c1 := HA.out.cell (.head _) 1
  have c2 := HA.out.cell (.head _) 2
  go_wp2_with fail
  refine (HFI.out _ HA.out.fr).mono ?_
  rintro _ w8 ⟨z, rfl, hq, hb⟩
  have HA' := Lib.hid (HA.out.below hb)
  clear HA
  have HA := HA'
  clear HA'
  have HLS' := Lib.hid (HLS.out.below hb)
  clear HLS
  have HLS := HLS'
  clear HLS'
  have HON' := Lib.hid (HON.out.below hb)
  clear HON
  have HON := HON'
  clear HON'
  have HQ := Lib.hid hq
  clear hq hb c0 c1 c2
  go_wp2_with fail
  refine (HC4.out z _ HQ.out).mono ?_
  rintro _ w9 ⟨sa2, sc2, rfl, hs, hb⟩
  have HA' := Lib.hid (HA.out.below hb)
  clear HA
  have HA := HA'
  clear HA'
  have HLS' := Lib.hid (HLS.out.below hb)
  clear HLS
  have HLS := HLS'
  clear HLS'
  have HON' := Lib.hid (HON.out.below hb)
  clear HON
  have HON := HON'
  clear HON'
  have HSU := Lib.hid hs
  clear hs
  clear hb
  clear HQ
  have c0 := HA.out.cell (.head _) 0
  have c1 := HA.out.cell (.head _) 1
  have c2 := HA.out.cell (.head _) 2
  go_wp2_with fail
  refine (HFI.out _ HA.out.fr).mono ?_
  rintro _ w10 ⟨z, rfl, hq, hb⟩
  have HA' := Lib.hid (HA.out.below hb)
  clear HA
  have HA := HA'
  clear HA'
  have HLS' := Lib.hid (HLS.out.below hb)
  clear HLS
  have HLS := HLS'
  clear HLS'
  have HON' := Lib.hid (HON.out.below hb)
  clear HON
  have HON := HON'
  clear HON'
  have HSU' := Lib.hid (HSU.out.below hb)
  clear HSU
  have HSU := HSU'
  clear HSU'
  have HQ := Lib.hid hq
  clear hq hb c0 c1 c2
  go_wp2_with fail
  refine (HC5.out z _ HQ.out).mono ?_
  rintro _ w11 ⟨pa2, pc2, rfl, hp, hb⟩
  have HA' := Lib.hid (HA.out.below hb)
  clear HA
  have HA := HA'
  clear HA'
  have HLS' := Lib.hid (HLS.out.below hb)
  clear HLS
  have HLS := HLS'
  clear HLS'
  have HON' := Lib.hid (HON.out.below hb)
  clear HON
  have HON := HON'
  clear HON'
  have HSU' := Lib.hid (HSU.out.below hb)
  clear HSU
  have HSU := HSU'
  clear HSU'
  have HPO := Lib.hid hp
  clear hp
  clear hb
  clear HQ
  have c0 := HA.out.cell (.head _) 0
  have c1 := HA.out.cell (.head _) 1
  have c2 := HA.out.cell (.head _) 2
  go_wp2_with fail
  refine (HFA.out _ HA.out.fr).mono ?_
  rintro _ w12 ⟨rfl, hb⟩
  have HA' := Lib.hid (HA.out.below hb)
  clear HA
  have HA := HA'
  clear HA'
  have HLS' := Lib.hid (HLS.out.below hb)
  clear HLS
  have HLS := HLS'
  clear HLS'
  have HON' := Lib.hid (HON.out.below hb)
  clear HON
  have HON := HON'
  clear HON'
  have HSU' := Lib.hid (HSU.out.below hb)
  clear HSU
  have HSU := HSU'
  clear HSU'
  have HPO' := Lib.hid (HPO.out.below hb)
  clear HPO
  have HPO := HPO'
  clear HPO'
  clear hb c0 c1 c2
  have c0 := HA.out.cell (.head _) 0
  have c1 := HA.out.cell (.head _) 1
  have c2 := HA.out.cell (.head _) 2
  go_wp2_with fail
  refine (HGR.out _ HA.out.fr).mono ?_
  rintro _ w13 ⟨rfl, hb⟩
  have HA' := Lib.hid (HA.out.below hb)
  clear HA
  have HA := HA'
  clear HA'
  have HLS' := Lib.hid (HLS.out.below hb)
  clear HLS
  have HLS := HLS'
  clear HLS'
  have HON' := Lib.hid (HON.out.below hb)
  clear HON
  have HON := HON'
  clear HON'
  have HSU' := Lib.hid (HSU.out.below hb)
  clear HSU
  have HSU := HSU'
  clear HSU'
  have HPO' := Lib.hid (HPO.out.below hb)
  clear HPO
  have HPO := HPO'
  clear HPO'
  clear hb c0 c1 c2
  have HS := Lib.hid (HA.out.alloc (a8 fun _ => 0) 40)
  have HGH := Lib.hid (HS.out.bk _ _ _ (.head _)).2
  have HGS := Lib.hid (graph_info (gI g))
  have HGZ : Hid ((a8 fun _ => (0 : Int)).size = (a8 (gI g)).size) := by unfold Hid; rw [a8_size, a8_size]
  have hb := below_setw (Below.refl w13.heap.size w13) #[.int .i64 0, .int .i64 0, .int .i64 0, .int .i64 0, .int .i64 0, .int .i64 0, .int .i64 0, .int .i64 0] (a8 (gI g)) 40
  have HA' : Hid (BF w ((w13.alloc (.cells #[.int .i64 0, .int .i64 0, .int .i64 0, .int .i64 0, .int .i64 0, .int .i64 0, .int .i64 0, .int .i64 0] 40)).setRow w13.heap.size (a8 (gI g))) [(w13.heap.size, a8 (gI g), 40), (w.heap.size, #[.slice oa no oc, .slice na nw nc, .slice ma nm mc], 25)]) := HA.out.setw _ _
  have HLS' := Lib.hid (HLS.out.below hb)
  clear HLS
  have HLS := HLS'
  clear HLS'
  have HON' := Lib.hid (HON.out.below hb)
  clear HON
  have HON := HON'
  clear HON'
  have HSU' := Lib.hid (HSU.out.below hb)
  clear HSU
  have HSU := HSU'
  clear HSU'
  have HPO' := Lib.hid (HPO.out.below hb)
  clear HPO
  have HPO := HPO'
  clear HPO'
  clear HA hb
  have HA := HA'
  clear HA'
  go_upto_region 12 with (first | (refine wpList_store_row (o := ⟨none, .store 40 (.tmp 14) (.tmp 105), _, _, _, _⟩) rfl 40 (.tmp 14) (.tmp 105) rfl w13.heap.size (a8 (gI g)) rfl rfl 40 (a8 fun _ => 0) HGH.out HGS.out HGZ.out (a8_one _) ?_) | (refine step_store_row (o := ⟨none, .store 40 (.tmp 14) (.tmp 105), _, _, _, _⟩) rfl 40 (.tmp 14) (.tmp 105) rfl w13.heap.size (a8 (gI g)) rfl rfl 40 (a8 fun _ => 0) HGH.out HGS.out HGZ.out (a8_one _) ?_))
  generalize ((w13.alloc (.cells #[.int .i64 0, .int .i64 0, .int .i64 0, .int .i64 0, .int .i64 0, .int .i64 0, .int .i64 0, .int .i64 0] 40)).setRow w13.heap.size (a8 (gI g))) = wg0 at *
  generalize w13.heap.size = GB at *
  clear HS HGH HGZ HTH HFI HC1 HC2 HC3 HC4 HC5 HFA HGR
  have HGH := Lib.hid (HA.out.bk _ _ _ (.head _)).2
  go_wp2_with (refine wpList_load_row (o := ⟨some 106, .load 40 (.tmp 14), _, _, _, _⟩) rfl 40 (.tmp 14) rfl GB rfl 40 (a8 (gI g)) (0, 0) _ HGH.out Tryz.underlying40 rfl HGS.out ?_)
  refine (HMG.out _).mono ?_
  rintro _ wg1 ⟨rfl, hb⟩
  have HA' := Lib.hid (HA.out.below hb)
  clear HA
  have HA := HA'
  clear HA'
  have HLS' := Lib.hid (HLS.out.below hb)
  clear HLS
  have HLS := HLS'
  clear HLS'
  have HON' := Lib.hid (HON.out.below hb)
  clear HON
  have HON := HON'
  clear HON'
  have HSU' := Lib.hid (HSU.out.below hb)
  clear HSU
  have HSU := HSU'
  clear HSU'
  have HPO' := Lib.hid (HPO.out.below hb)
  clear HPO
  have HPO := HPO'
  clear HPO'
  clear hb HGH HMG
  have HGH := Lib.hid (HA.out.bk _ _ _ (.head _)).2
  have c0 := HA.out.cell (.tail _ (.head _)) 0
  have c1 := HA.out.cell (.tail _ (.head _)) 1
  have c2 := HA.out.cell (.tail _ (.head _)) 2
  go_wp2_with (refine wpList_load_row (o := ⟨some 110, .load 40 (.tmp 14), _, _, _, _⟩) rfl 40 (.tmp 14) rfl GB rfl 40 (a8 (gI g)) (0, 0) _ HGH.out Tryz.underlying40 rfl HGS.out ?_)
  refine (HIM.out _ _ _ HLS.out).mono ?_
  rintro _ wg ⟨rfl, hb⟩
  have HA' := Lib.hid (HA.out.below hb)
  clear HA
  have HA := HA'
  clear HA'
  have HLS' := Lib.hid (HLS.out.below hb)
  clear HLS
  have HLS := HLS'
  clear HLS'
  have HON' := Lib.hid (HON.out.below hb)
  clear HON
  have HON := HON'
  clear HON'
  have HSU' := Lib.hid (HSU.out.below hb)
  clear HSU
  have HSU := HSU'
  clear HSU'
  have HPO' := Lib.hid (HPO.out.below hb)
  clear HPO
  have HPO := HPO'
  clear HPO'
  clear hb HGH HIM c0 c1 c2
  have kn1 : ((mst : Int) != (mst : Int)) = false := by simp
  go_wp2_with fail
  go_loopw [18, 19, 20] (fun v1 v2 i wr => ∃ k : Nat, i = .int .i64 (k : Int) ∧ k ≤ no ∧ Two wg.heap.size wr 45 2 v1 (dL q1 nw k).length (flat (dL q1 nw k)) v2 (dL q2 nw k).length (flat (dL q2 nw k)) ∧ Below wg.heap.size wg wr) (fun _ _ i _ => no - (intOf i).toNat)
  case atStart => exact ⟨0, rfl, Nat.zero_le _, Two.nil, Below.refl _ _⟩
  case round =>
    obtain ⟨i, rfl, hi, htw, hbl⟩ := hrel
    rename World => wx
    obtain ⟨v1a, v1c, rfl⟩ := own_slice' htw.o1
    obtain ⟨v2a, v2c, rfl⟩ := own_slice' htw.o2
    have HT := Lib.hid htw
    have HB := Lib.hid hbl
    have HX := Lib.hid (HA.out.below hbl)
    clear htw hbl
    have c0 := HX.out.cell (.tail _ (.head _)) 0
    by_cases hlt : i < no
    · have ki : (0 : Int) ≤ (i : Int) := by omega
      have kj : (i : Int) < (no : Int) := by omega
      have h8 : i < 8 := by omega
      have HISI := Lib.hid (fun k X hk => HIS.out i k X h8 hk)
      have HIPI := Lib.hid (fun k X hk => HIP.out i k X h8 hk)
      go_wp2_with fail
      clear c0 HX
      go_loopw [18, 19, 21] (fun v1 v2 i2 wr => ∃ j : Nat, i2 = .int .i64 (j : Int) ∧ j ≤ nw ∧ Two wg.heap.size wr 45 2 v1 (dL q1 nw i ++ dR q1 i j).length (flat (dL q1 nw i ++ dR q1 i j)) v2 (dL q2 nw i ++ dR q2 i j).length (flat (dL q2 nw i ++ dR q2 i j)) ∧ Below wg.heap.size wg wr) (fun _ _ i2 _ => nw - (intOf i2).toNat)
      case atStart => exact ⟨0, rfl, Nat.zero_le _, by rw [dR_zero, List.append_nil, dR_zero, List.append_nil]; exact HT.out, HB.out⟩
      case round =>
        clear HT HB
        obtain ⟨j, rfl, hj, htw, hbl⟩ := hrel
        rename World => wy
        obtain ⟨v1a, v1c, rfl⟩ := own_slice' htw.o1
        obtain ⟨v2a, v2c, rfl⟩ := own_slice' htw.o2
        have HT := Lib.hid htw
        have HB := Lib.hid hbl
        have HX := Lib.hid (HA.out.below hbl)
        clear htw hbl
        have c1 := HX.out.cell (.tail _ (.head _)) 1
        by_cases hlt2 : j < nw
        · have ji : (0 : Int) ≤ (j : Int) := by omega
          have jj : (j : Int) < (nw : Int) := by omega
          have h82 : j < 8 := by omega
          have HCJ := Lib.hid (fun X => HISI.out j X h82)
          have HPJ := Lib.hid (fun X => HIPI.out j X h82)
          have hl1 := dL_len q1 nw i
          have hr1 := dR_len q1 i j
          have hl2 := dL_len q2 nw i
          have hr2 := dR_len q2 i j
          have hmm : nw * i ≤ 8 * 8 := Nat.mul_le_mul (by omega) (by omega)
          have hle1 : (dL q1 nw i ++ dR q1 i j).length ≤ 72 := by rw [List.length_append]; omega
          have hle2 : (dL q2 nw i ++ dR q2 i j).length ≤ 72 := by rw [List.length_append]; omega
          have HCE1 : Hid (dL q1 nw i ++ dR q1 i (j + 1) = (dL q1 nw i ++ dR q1 i j) ++ if q1 i j = true then [((i : Int), (j : Int))] else []) := by unfold Hid; rw [dR_succ, ← List.append_assoc]
          have HCE2 : Hid (dL q2 nw i ++ dR q2 i (j + 1) = (dL q2 nw i ++ dR q2 i j) ++ if q2 i j = true then [((i : Int), (j : Int))] else []) := by unfold Hid; rw [dR_succ, ← List.append_assoc]
          generalize dL q1 nw i ++ dR q1 i j = cl at *
          generalize dL q2 nw i ++ dR q2 i j = c2 at *
          generalize hpr : q1 i j = p1 at HCJ HCE1
          generalize hpr2 : q2 i j = p2 at HPJ HCE2
          clear hpr hpr2 hl1 hr1 hl2 hr2 hmm
          have HGH := Lib.hid (HX.out.bk _ _ _ (.head _)).2
          go_wp2_with (refine wpList_load_row (o := ⟨some 157, .load 40 (.tmp 14), _, _, _, _⟩) rfl 40 (.tmp 14) rfl GB rfl 40 (a8 (gI g)) (0, 0) _ HGH.out Tryz.underlying40 rfl HGS.out ?_)
          refine (HCJ.out _).mono ?_
          rintro _ wx1 ⟨rfl, hb⟩
          have HT' := Lib.hid (HT.out.below hb)
          have HB' := Lib.hid (HB.out.trans (hb.mono HB.out.size))
          clear hb HT HB c1 HGH HX HCJ
          have HT := HT'
          have HB := HB'
          clear HT' HB'
          cases p1
          · have HC1 : Hid (dL q1 nw i ++ dR q1 i (j + 1) = cl) := by unfold Hid; rw [HCE1.out]; simp
            clear HCE1
            have HGH := Lib.hid ((HA.out.below HB.out).bk _ _ _ (.head _)).2
            go_wp2_with (refine wpList_load_row (o := ⟨some 167, .load 40 (.tmp 14), _, _, _, _⟩) rfl 40 (.tmp 14) rfl GB rfl 40 (a8 (gI g)) (0, 0) _ HGH.out Tryz.underlying40 rfl HGS.out ?_)
            refine (HPJ.out _).mono ?_
            rintro _ wx2 ⟨rfl, hb⟩
            have HT' := Lib.hid (HT.out.below hb)
            have HB' := Lib.hid (HB.out.trans (hb.mono HB.out.size))
            clear hb HT HB HGH
            have HT := HT'
            have HB := HB'
            clear HT' HB'
            cases p2
            · have HC2 : Hid (dL q2 nw i ++ dR q2 i (j + 1) = c2) := by unfold Hid; rw [HCE2.out]; simp
              go_wp2_with fail
              go_roundw
              case rel => exact ⟨j + 1, by go_num, by omega, by rw [HC1.out, HC2.out]; exact HT.out, HB.out⟩
              case measure => simp [intOf]; omega
            · have HC2 : Hid (dL q2 nw i ++ dR q2 i (j + 1) = c2 ++ [((i : Int), (j : Int))]) := by unfold Hid; rw [HCE2.out]; simp
              have hsz := HB.out.size
              have hbl := below_alloc wx2 (.cells #[.int .i64 (i : Int), .int .i64 (j : Int)] 45)
              have HN := Lib.hid (World.news_of_block (heap_alloc_new wx2 (.cells #[.int .i64 (i : Int), .int .i64 (j : Int)] 45)))
              have HTA := Lib.hid (HT.out.below hbl)
              have HBA := Lib.hid (HB.out.trans (hbl.mono hsz))
              clear HT HB hbl
              go_wp2_with (at_builtin; refine wpList_append_src _ rfl (.tmp 171) (.tmp 175) 42 rfl wg.heap.size 45 i0 (.agg #[.int .i64 0, .int .i64 0]) 2 16 Tryz.underlying42 hi0 hz0 hz1 hz2 rfl (by decide) (.slice v2a c2.length v2c) c2.length (flat c2) rfl HTA.out.o2 (some ⟨wx2.heap.size, 0, none⟩) 1 1 [.int .i64 (i : Int), .int .i64 (j : Int)] rfl ⟨rfl, fun q u hu => ⟨_, rfl, HN.out q u hu⟩⟩ ?c0 ?c1 ?c2 ?c3 ?_)
              case c0 => simp [Value.oneCell']
              case c1 => unfold maxLen; omega
              case c2 => omega
              case c3 => simp; omega
              intro v' wx3 hown hgr hloc
              have HB : Hid (Below wg.heap.size wg wx3) := HBA.out.trans ((Fr.grown hgr).low HBA.out.size (fun q hq e => by have := own_low HTA.out.o2 e; omega))
              have hown2 : wx3.ownsRow wg.heap.size 45 2 v' (c2 ++ [((i : Int), (j : Int))]).length (flat (c2 ++ [((i : Int), (j : Int))])) := by rw [flat_append, List.length_append]; exact hown
              have HT := Lib.hid ((HTA.out.swap.app1 hown2 hgr (by rw [World.size_alloc]; exact hloc)).swap)
              obtain ⟨v2a, v2c, rfl⟩ := own_slice' hown
              clear hown hown2 hgr hloc HTA HBA HN hsz
              go_wp2_with fail
              go_roundw
              case rel => exact ⟨j + 1, by go_num, by omega, by rw [HC1.out, HC2.out]; exact HT.out, HB.out⟩
              case measure => simp [intOf]; omega
          · have HC1 : Hid (dL q1 nw i ++ dR q1 i (j + 1) = cl ++ [((i : Int), (j : Int))]) := by unfold Hid; rw [HCE1.out]; simp
            clear HCE1
            have hsz := HB.out.size
            have hbl := below_alloc wx1 (.cells #[.int .i64 (i : Int), .int .i64 (j : Int)] 45)
            have HN := Lib.hid (World.news_of_block (heap_alloc_new wx1 (.cells #[.int .i64 (i : Int), .int .i64 (j : Int)] 45)))
            have HTA := Lib.hid (HT.out.below hbl)
            have HBA := Lib.hid (HB.out.trans (hbl.mono hsz))
            clear HT HB hbl
            go_wp2_with (at_builtin; refine wpList_append_src _ rfl (.tmp 161) (.tmp 165) 42 rfl wg.heap.size 45 i0 (.agg #[.int .i64 0, .int .i64 0]) 2 16 Tryz.underlying42 hi0 hz0 hz1 hz2 rfl (by decide) (.slice v1a cl.length v1c) cl.length (flat cl) rfl HTA.out.o1 (some ⟨wx1.heap.size, 0, none⟩) 1 1 [.int .i64 (i : Int), .int .i64 (j : Int)] rfl ⟨rfl, fun q u hu => ⟨_, rfl, HN.out q u hu⟩⟩ ?c0 ?c1 ?c2 ?c3 ?_)
            case c0 => simp [Value.oneCell']
            case c1 => unfold maxLen; omega
            case c2 => omega
            case c3 => simp; omega
            intro v' wx0 hown hgr hloc
            have HB : Hid (Below wg.heap.size wg wx0) := HBA.out.trans ((Fr.grown hgr).low HBA.out.size (fun q hq e => by have := own_low HTA.out.o1 e; omega))
            have hown2 : wx0.ownsRow wg.heap.size 45 2 v' (cl ++ [((i : Int), (j : Int))]).length (flat (cl ++ [((i : Int), (j : Int))])) := by rw [flat_append, List.length_append]; exact hown
            have HT := Lib.hid (HTA.out.app1 hown2 hgr (by rw [World.size_alloc]; exact hloc))
            obtain ⟨v1a, v1c, rfl⟩ := own_slice' hown
            clear hown hown2 hgr hloc HTA HBA HN hsz
            have HGH := Lib.hid ((HA.out.below HB.out).bk _ _ _ (.head _)).2
            go_wp2_with (refine wpList_load_row (o := ⟨some 167, .load 40 (.tmp 14), _, _, _, _⟩) rfl 40 (.tmp 14) rfl GB rfl 40 (a8 (gI g)) (0, 0) _ HGH.out Tryz.underlying40 rfl HGS.out ?_)
            refine (HPJ.out _).mono ?_
            rintro _ wx2 ⟨rfl, hb⟩
            have HT' := Lib.hid (HT.out.below hb)
            have HB' := Lib.hid (HB.out.trans (hb.mono HB.out.size))
            clear hb HT HB HGH
            have HT := HT'
            have HB := HB'
            clear HT' HB'
            cases p2
            · have HC2 : Hid (dL q2 nw i ++ dR q2 i (j + 1) = c2) := by unfold Hid; rw [HCE2.out]; simp
              go_wp2_with fail
              go_roundw
              case rel => exact ⟨j + 1, by go_num, by omega, by rw [HC1.out, HC2.out]; exact HT.out, HB.out⟩
              case measure => simp [intOf]; omega
            · have HC2 : Hid (dL q2 nw i ++ dR q2 i (j + 1) = c2 ++ [((i : Int), (j : Int))]) := by unfold Hid; rw [HCE2.out]; simp
              have hsz := HB.out.size
              have hbl := below_alloc wx2 (.cells #[.int .i64 (i : Int), .int .i64 (j : Int)] 45)
              have HN := Lib.hid (World.news_of_block (heap_alloc_new wx2 (.cells #[.int .i64 (i : Int), .int .i64 (j : Int)] 45)))
              have HTA := Lib.hid (HT.out.below hbl)
              have HBA := Lib.hid (HB.out.trans (hbl.mono hsz))
              clear HT HB hbl
              go_wp2_with (at_builtin; refine wpList_append_src _ rfl (.tmp 171) (.tmp 175) 42 rfl wg.heap.size 45 i0 (.agg #[.int .i64 0, .int .i64 0]) 2 16 Tryz.underlying42 hi0 hz0 hz1 hz2 rfl (by decide) (.slice v2a c2.length v2c) c2.length (flat c2) rfl HTA.out.o2 (some ⟨wx2.heap.size, 0, none⟩) 1 1 [.int .i64 (i : Int), .int .i64 (j : Int)] rfl ⟨rfl, fun q u hu => ⟨_, rfl, HN.out q u hu⟩⟩ ?c0 ?c1 ?c2 ?c3 ?_)
              case c0 => simp [Value.oneCell']
              case c1 => unfold maxLen; omega
              case c2 => omega
              case c3 => simp; omega
              intro v' wx3 hown hgr hloc
              have HB : Hid (Below wg.heap.size wg wx3) := HBA.out.trans ((Fr.grown hgr).low HBA.out.size (fun q hq e => by have := own_low HTA.out.o2 e; omega))
              have hown2 : wx3.ownsRow wg.heap.size 45 2 v' (c2 ++ [((i : Int), (j : Int))]).length (flat (c2 ++ [((i : Int), (j : Int))])) := by rw [flat_append, List.length_append]; exact hown
              have HT := Lib.hid ((HTA.out.swap.app1 hown2 hgr (by rw [World.size_alloc]; exact hloc)).swap)
              obtain ⟨v2a, v2c, rfl⟩ := own_slice' hown
              clear hown hown2 hgr hloc HTA HBA HN hsz
              go_wp2_with fail
              go_roundw
              case rel => exact ⟨j + 1, by go_num, by omega, by rw [HC1.out, HC2.out]; exact HT.out, HB.out⟩
              case measure => simp [intOf]; omega
        · have HE1 : Hid (dL q1 nw i ++ dR q1 i j = dL q1 nw (i + 1)) := by
            have hjl : j = nw := by omega
            unfold Hid; rw [hjl, ← dL_succ]
          have HE2 : Hid (dL q2 nw i ++ dR q2 i j = dL q2 nw (i + 1)) := by
            have hjl : j = nw := by omega
            unfold Hid; rw [hjl, ← dL_succ]
          rw [HE1.out, HE2.out] at HT ⊢
          go_wp2_with fail
          go_roundw
          case rel => exact ⟨i + 1, by go_num, by omega, HT.out, HB.out⟩
          case measure => simp [intOf]; omega
    · obtain rfl : i = no := by omega
      have HS2 := Lib.hid (SkIn.own HT.out.o1)
      have HP2 := Lib.hid (SkIn.own HT.out.o2)
      have HSU' := Lib.hid (HSU.out.below HB.out)
      have HPO' := Lib.hid (HPO.out.below HB.out)
      have HLS' := Lib.hid (HLS.out.below HB.out)
      have HON2 := Lib.hid (HON.out.below HB.out)
      have hl1 := dL_len q1 nw i
      have hl2 := dL_len q2 nw i
      have hmm : nw * i ≤ 8 * 8 := Nat.mul_le_mul (by omega) (by omega)
      have hm1 : (dL q1 nw i).length ≤ 100000 := by omega
      have hm2 : (dL q2 nw i).length ≤ 100000 := by omega
      clear HSU HPO HLS hl1 hl2 hmm HT HB HIS HIP HON
      generalize dL q1 nw i = L1 at *
      generalize dL q2 nw i = L2 at *
      go_wp2_with fail
      refine (pairs_lit L1 _ _ _ _ _ hm1 HSU'.out HS2.out).mono ?_
      rintro _ w30 ⟨rfl, hb⟩
      have HX2 := Lib.hid (HX.out.below hb)
      have HPO2 := Lib.hid (HPO'.out.below hb)
      have HP3 := Lib.hid (HP2.out.below hb)
      have HLS2 := Lib.hid (HLS'.out.below hb)
      have HON3 := Lib.hid (HON2.out.below hb)
      clear hb HX c0
      go_wp2_with fail
      refine (pairs_lit L2 _ _ _ _ _ hm2 HPO2.out HP3.out).mono ?_
      rintro _ w31 ⟨rfl, hb⟩
      have HX3 := Lib.hid (HX2.out.below hb)
      have HLS3 := Lib.hid (HLS2.out.below hb)
      have HON4 := Lib.hid (HON3.out.below hb)
      clear hb HX2
      have hll := HLL.out
      have kl : ((L1.length : Int) != (L2.length : Int)) = false := by rw [hll]; simp
      clear hll
      go_wp2_with fail
      refine (ints_lit ls i _ _ _ _ _ (by omega) HON4.out HLS3.out).mono ?_
      rintro _ w32 ⟨rfl, hb⟩
      have HX4 := Lib.hid (HX3.out.below hb)
      clear hb HX3
      go_wp2_with fail
      refine (awake5_any _).mono ?_
      rintro _ w33 ⟨rfl, hb⟩
      have HX5 := Lib.hid (HX4.out.below hb)
      clear hb
      go_wp2_with fail
      go_ret
      exact ⟨rfl, HX5.out.fr⟩
set_option maxRecDepth 100000 in
set_option maxHeartbeats 32000000 in
theorem linkMatches_tie (x : FV) (f : Fl) (w : World) (h : FlQ QR w x f) (ht : f.thin = true) (hf : f.fault = 0) (hon : f.only = false) :
    Calls Tryz.prog 12 #[.agg #[.slice x.oa f.no x.oc, .slice x.na f.nw x.nc, .slice x.ma f.nm x.mc]] w fun e w' => e = .returned (.bool true) ∧ Below w.heap.size w w' := by
  obtain ⟨oa, oc, na, nc, ma, mc⟩ := x
  have OK := Lib.hid (Fl.ok hf)
  have hno := OK.out.no
  have hnw := OK.out.nw
  obtain ⟨i0, hi0, hz0, hz1, hz2⟩ := info_parts Tryz.infoPairR
  have HTH := Lib.hid (thinW ⟨oa, oc, na, nc, ma, mc⟩ f w h true ht)
  have HFI := Lib.hid (fileW ⟨oa, oc, na, nc, ma, mc⟩ f w h ht)
  have HC1 : Hid (∀ (z : FV) X, FlQ QP X z f → Calls Tryz.prog 42 #[.agg #[.slice z.oa f.no z.oc, .slice z.na f.nw z.nc, .slice z.ma f.nm z.mc]] X fun e w' => e = .returned (.tuple #[.int .i64 (f.most : Int), .int .i64 0]) ∧ Below X.heap.size X w') := fun z X hq => mostF_ok z f X hq hf
  have HC2 : Hid (∀ (z : FV) X, FlQ QP X z f → Calls Tryz.prog 43 #[.agg #[.slice z.oa f.no z.oc, .slice z.na f.nw z.nc, .slice z.ma f.nm z.mc]] X (GivesT X f.no f.lst)) := fun z X hq => matchF_ok z f X hq hf
  have HC3 : Hid (∀ (z : FV) X, FlQ QP X z f → Calls Tryz.prog 38 #[.agg #[.slice z.oa f.no z.oc, .slice z.na f.nw z.nc, .slice z.ma f.nm z.mc]] X fun e w' => e = .returned (.tuple #[.slice none 0 0, .int .i64 10]) ∧ Below X.heap.size X w') := fun z X hq => (onlyF_ok z f X hq hf).mono fun e w2 h => h.elim (fun q => absurd (q.1.symm.trans hon) (by decide)) (fun q => q.2)
  have HC4 : Hid (∀ (z : FV) X, FlQ QP X z f → Calls Tryz.prog 37 #[.agg #[.slice z.oa f.no z.oc, .slice z.na f.nw z.nc, .slice z.ma f.nm z.mc]] X (GivesP X (dL f.qS f.nw f.no))) := fun z X hq => by rw [← chL_S]; exact sureF_ok z f X hq hf
  have HC5 : Hid (∀ (z : FV) X, FlQ QP X z f → Calls Tryz.prog 35 #[.agg #[.slice z.oa f.no z.oc, .slice z.na f.nw z.nc, .slice z.ma f.nm z.mc]] X (GivesP X (dL f.qP f.nw f.no))) := fun z X hq => by rw [← chL_P]; exact possF_ok z f X hq hf
  have HFA := Lib.hid (faultW ⟨oa, oc, na, nc, ma, mc⟩ f w h 0 hf)
  have HGR := Lib.hid (graphedW ⟨oa, oc, na, nc, ma, mc⟩ f w h hf)
  have HMG := Lib.hid (fun X => mostR_any f.g X)
  rw [OK.out.rMost] at HMG
  have HIM := Lib.hid (fun a c X hl => isMatchQ ⟨oa, oc, na, nc, ma, mc⟩ OK.out hf a c X hl)
  have HIS := Lib.hid (fun i k X hi hk => isSureQ OK.out i k X hi hk)
  have HIP := Lib.hid (fun i k X hi hk => isPossQ OK.out i k X hi hk)
  have HLL : Hid ((dL f.qS f.nw f.no).length ≠ (dL f.qP f.nw f.no).length) := fun e => by rw [OK.out.only_iff.2 e] at hon; cases hon
  unfold GivesP at HC4 HC5
  unfold GivesT at HC2
  clear h ht hf OK hon
  dsimp only at HTH HFI HFA HGR HIM ⊢
  generalize f.qS = q1 at *
  generalize f.qP = q2 at *
  generalize f.lst = ls at *
  generalize f.most = mst at *
  generalize f.g = g at *
  generalize f.no = no at *
  generalize f.nw = nw at *
  generalize f.nm = nm at *
  have HA := Lib.hid ((BF.base w).alloc #[.slice oa no oc, .slice na nw nc, .slice ma nm mc] 25)
  go_enter Tryz.func12, Tryz.ntmps12
  have c0 := HA.out.cell (.head _) 0
  have c1 := HA.out.cell (.head _) 1
  have c2 := HA.out.cell (.head _) 2
  go_wp2_with fail
  refine (HTH.out _ HA.out.fr).mono ?_
  rintro _ w1 ⟨rfl, hb⟩
  have HA' := Lib.hid (HA.out.below hb)
  clear HA
  have HA := HA'
  clear HA'
  clear hb c0 c1 c2
  have c0 := HA.out.cell (.head _) 0
  have c1 := HA.out.cell (.head _) 1
  have c2 := HA.out.cell (.head _) 2
  go_wp2_with fail
  refine (HFI.out _ HA.out.fr).mono ?_
  rintro _ w2 ⟨z, rfl, hq, hb⟩
  have HA' := Lib.hid (HA.out.below hb)
  clear HA
  have HA := HA'
  clear HA'
  have HQ := Lib.hid hq
  clear hq hb c0 c1 c2
  go_wp2_with fail
  refine (HC1.out z _ HQ.out).mono ?_
  rintro _ w3 ⟨rfl, hb⟩
  have HA' := Lib.hid (HA.out.below hb)
  clear HA
  have HA := HA'
  clear HA'
  clear hb
  clear HQ
  have c0 := HA.out.cell (.head _) 0
  have c1 := HA.out.cell (.head _) 1
  have c2 := HA.out.cell (.head _) 2
  go_wp2_with fail
  refine (HFI.out _ HA.out.fr).mono ?_
  rintro _ w4 ⟨z, rfl, hq, hb⟩
  have HA' := Lib.hid (HA.out.below hb)
  clear HA
  have HA := HA'
  clear HA'
  have HQ := Lib.hid hq
  clear hq hb c0 c1 c2
  go_wp2_with fail
  refine (HC2.out z _ HQ.out).mono ?_
  rintro _ w5 ⟨ma2, mc2, rfl, hl, hb⟩
  have HA' := Lib.hid (HA.out.below hb)
  clear HA
  have HA := HA'
  clear HA'
  have HLS := Lib.hid hl
  clear hl
  clear hb
  clear HQ
  have c0 := HA.out.cell (.head _) 0
  have c1 := HA.out.cell (.head _) 1
  have c2 := HA.out.cell (.head _) 2
  go_wp2_with fail
  refine (HFI.out _ HA.out.fr).mono ?_
  rintro _ w6 ⟨z, rfl, hq, hb⟩
  have HA' := Lib.hid (HA.out.below hb)
  clear HA
  have HA := HA'
  clear HA'
  have HLS' := Lib.hid (HLS.out.below hb)
  clear HLS
  have HLS := HLS'
  clear HLS'
  have HQ := Lib.hid hq
  clear hq hb c0 c1 c2
  go_wp2_with fail
  refine (HC3.out z _ HQ.out).mono ?_
  rintro _ w7 ⟨rfl, hb⟩
  have HA' := Lib.hid (HA.out.below hb)
  clear HA
  have HA := HA'
  clear HA'
  have HLS' := Lib.hid (HLS.out.below hb)
  clear HLS
  have HLS := HLS'
  clear HLS'
  clear hb
  clear HQ
  have c0 := HA.out.cell (.head _) 0
  have c1 := HA.out.cell (.head _) 1
  have c2 := HA.out.cell (.head _) 2
  go_wp2_with fail
  refine (HFI.out _ HA.out.fr).mono ?_
  rintro _ w8 ⟨z, rfl, hq, hb⟩
  have HA' := Lib.hid (HA.out.below hb)
  clear HA
  have HA := HA'
  clear HA'
  have HLS' := Lib.hid (HLS.out.below hb)
  clear HLS
  have HLS := HLS'
  clear HLS'
  have HQ := Lib.hid hq
  clear hq hb c0 c1 c2
  go_wp2_with fail
  refine (HC4.out z _ HQ.out).mono ?_
  rintro _ w9 ⟨sa2, sc2, rfl, hs, hb⟩
  have HA' := Lib.hid (HA.out.below hb)
  clear HA
  have HA := HA'
  clear HA'
  have HLS' := Lib.hid (HLS.out.below hb)
  clear HLS
  have HLS := HLS'
  clear HLS'
  have HSU := Lib.hid hs
  clear hs
  clear hb
  clear HQ
  have c0 := HA.out.cell (.head _) 0
  have c1 := HA.out.cell (.head _) 1
  have c2 := HA.out.cell (.head _) 2
  go_wp2_with fail
  refine (HFI.out _ HA.out.fr).mono ?_
  rintro _ w10 ⟨z, rfl, hq, hb⟩
  have HA' := Lib.hid (HA.out.below hb)
  clear HA
  have HA := HA'
  clear HA'
  have HLS' := Lib.hid (HLS.out.below hb)
  clear HLS
  have HLS := HLS'
  clear HLS'
  have HSU' := Lib.hid (HSU.out.below hb)
  clear HSU
  have HSU := HSU'
  clear HSU'
  have HQ := Lib.hid hq
  clear hq hb c0 c1 c2
  go_wp2_with fail
  refine (HC5.out z _ HQ.out).mono ?_
  rintro _ w11 ⟨pa2, pc2, rfl, hp, hb⟩
  have HA' := Lib.hid (HA.out.below hb)
  clear HA
  have HA := HA'
  clear HA'
  have HLS' := Lib.hid (HLS.out.below hb)
  clear HLS
  have HLS := HLS'
  clear HLS'
  have HSU' := Lib.hid (HSU.out.below hb)
  clear HSU
  have HSU := HSU'
  clear HSU'
  have HPO := Lib.hid hp
  clear hp
  clear hb
  clear HQ
  have c0 := HA.out.cell (.head _) 0
  have c1 := HA.out.cell (.head _) 1
  have c2 := HA.out.cell (.head _) 2
  go_wp2_with fail
  refine (HFA.out _ HA.out.fr).mono ?_
  rintro _ w12 ⟨rfl, hb⟩
  have HA' := Lib.hid (HA.out.below hb)
  clear HA
  have HA := HA'
  clear HA'
  have HLS' := Lib.hid (HLS.out.below hb)
  clear HLS
  have HLS := HLS'
  clear HLS'
  have HSU' := Lib.hid (HSU.out.below hb)
  clear HSU
  have HSU := HSU'
  clear HSU'
  have HPO' := Lib.hid (HPO.out.below hb)
  clear HPO
  have HPO := HPO'
  clear HPO'
  clear hb c0 c1 c2
  have c0 := HA.out.cell (.head _) 0
  have c1 := HA.out.cell (.head _) 1
  have c2 := HA.out.cell (.head _) 2
  go_wp2_with fail
  refine (HGR.out _ HA.out.fr).mono ?_
  rintro _ w13 ⟨rfl, hb⟩
  have HA' := Lib.hid (HA.out.below hb)
  clear HA
  have HA := HA'
  clear HA'
  have HLS' := Lib.hid (HLS.out.below hb)
  clear HLS
  have HLS := HLS'
  clear HLS'
  have HSU' := Lib.hid (HSU.out.below hb)
  clear HSU
  have HSU := HSU'
  clear HSU'
  have HPO' := Lib.hid (HPO.out.below hb)
  clear HPO
  have HPO := HPO'
  clear HPO'
  clear hb c0 c1 c2
  have HS := Lib.hid (HA.out.alloc (a8 fun _ => 0) 40)
  have HGH := Lib.hid (HS.out.bk _ _ _ (.head _)).2
  have HGS := Lib.hid (graph_info (gI g))
  have HGZ : Hid ((a8 fun _ => (0 : Int)).size = (a8 (gI g)).size) := by unfold Hid; rw [a8_size, a8_size]
  have hb := below_setw (Below.refl w13.heap.size w13) #[.int .i64 0, .int .i64 0, .int .i64 0, .int .i64 0, .int .i64 0, .int .i64 0, .int .i64 0, .int .i64 0] (a8 (gI g)) 40
  have HA' : Hid (BF w ((w13.alloc (.cells #[.int .i64 0, .int .i64 0, .int .i64 0, .int .i64 0, .int .i64 0, .int .i64 0, .int .i64 0, .int .i64 0] 40)).setRow w13.heap.size (a8 (gI g))) [(w13.heap.size, a8 (gI g), 40), (w.heap.size, #[.slice oa no oc, .slice na nw nc, .slice ma nm mc], 25)]) := HA.out.setw _ _
  have HLS' := Lib.hid (HLS.out.below hb)
  clear HLS
  have HLS := HLS'
  clear HLS'
  have HSU' := Lib.hid (HSU.out.below hb)
  clear HSU
  have HSU := HSU'
  clear HSU'
  have HPO' := Lib.hid (HPO.out.below hb)
  clear HPO
  have HPO := HPO'
  clear HPO'
  clear HA hb
  have HA := HA'
  clear HA'
  go_upto_region 12 with (first | (refine wpList_store_row (o := ⟨none, .store 40 (.tmp 14) (.tmp 105), _, _, _, _⟩) rfl 40 (.tmp 14) (.tmp 105) rfl w13.heap.size (a8 (gI g)) rfl rfl 40 (a8 fun _ => 0) HGH.out HGS.out HGZ.out (a8_one _) ?_) | (refine step_store_row (o := ⟨none, .store 40 (.tmp 14) (.tmp 105), _, _, _, _⟩) rfl 40 (.tmp 14) (.tmp 105) rfl w13.heap.size (a8 (gI g)) rfl rfl 40 (a8 fun _ => 0) HGH.out HGS.out HGZ.out (a8_one _) ?_))
  generalize ((w13.alloc (.cells #[.int .i64 0, .int .i64 0, .int .i64 0, .int .i64 0, .int .i64 0, .int .i64 0, .int .i64 0, .int .i64 0] 40)).setRow w13.heap.size (a8 (gI g))) = wg0 at *
  generalize w13.heap.size = GB at *
  clear HS HGH HGZ HTH HFI HC1 HC2 HC3 HC4 HC5 HFA HGR
  have HGH := Lib.hid (HA.out.bk _ _ _ (.head _)).2
  go_wp2_with (refine wpList_load_row (o := ⟨some 106, .load 40 (.tmp 14), _, _, _, _⟩) rfl 40 (.tmp 14) rfl GB rfl 40 (a8 (gI g)) (0, 0) _ HGH.out Tryz.underlying40 rfl HGS.out ?_)
  refine (HMG.out _).mono ?_
  rintro _ wg1 ⟨rfl, hb⟩
  have HA' := Lib.hid (HA.out.below hb)
  clear HA
  have HA := HA'
  clear HA'
  have HLS' := Lib.hid (HLS.out.below hb)
  clear HLS
  have HLS := HLS'
  clear HLS'
  have HSU' := Lib.hid (HSU.out.below hb)
  clear HSU
  have HSU := HSU'
  clear HSU'
  have HPO' := Lib.hid (HPO.out.below hb)
  clear HPO
  have HPO := HPO'
  clear HPO'
  clear hb HGH HMG
  have HGH := Lib.hid (HA.out.bk _ _ _ (.head _)).2
  have c0 := HA.out.cell (.tail _ (.head _)) 0
  have c1 := HA.out.cell (.tail _ (.head _)) 1
  have c2 := HA.out.cell (.tail _ (.head _)) 2
  go_wp2_with (refine wpList_load_row (o := ⟨some 110, .load 40 (.tmp 14), _, _, _, _⟩) rfl 40 (.tmp 14) rfl GB rfl 40 (a8 (gI g)) (0, 0) _ HGH.out Tryz.underlying40 rfl HGS.out ?_)
  refine (HIM.out _ _ _ HLS.out).mono ?_
  rintro _ wg ⟨rfl, hb⟩
  have HA' := Lib.hid (HA.out.below hb)
  clear HA
  have HA := HA'
  clear HA'
  have HLS' := Lib.hid (HLS.out.below hb)
  clear HLS
  have HLS := HLS'
  clear HLS'
  have HSU' := Lib.hid (HSU.out.below hb)
  clear HSU
  have HSU := HSU'
  clear HSU'
  have HPO' := Lib.hid (HPO.out.below hb)
  clear HPO
  have HPO := HPO'
  clear HPO'
  clear hb HGH HIM c0 c1 c2
  have kn1 : ((mst : Int) != (mst : Int)) = false := by simp
  go_wp2_with fail
  go_loopw [18, 19, 20] (fun v1 v2 i wr => ∃ k : Nat, i = .int .i64 (k : Int) ∧ k ≤ no ∧ Two wg.heap.size wr 45 2 v1 (dL q1 nw k).length (flat (dL q1 nw k)) v2 (dL q2 nw k).length (flat (dL q2 nw k)) ∧ Below wg.heap.size wg wr) (fun _ _ i _ => no - (intOf i).toNat)
  case atStart => exact ⟨0, rfl, Nat.zero_le _, Two.nil, Below.refl _ _⟩
  case round =>
    obtain ⟨i, rfl, hi, htw, hbl⟩ := hrel
    rename World => wx
    obtain ⟨v1a, v1c, rfl⟩ := own_slice' htw.o1
    obtain ⟨v2a, v2c, rfl⟩ := own_slice' htw.o2
    have HT := Lib.hid htw
    have HB := Lib.hid hbl
    have HX := Lib.hid (HA.out.below hbl)
    clear htw hbl
    have c0 := HX.out.cell (.tail _ (.head _)) 0
    by_cases hlt : i < no
    · have ki : (0 : Int) ≤ (i : Int) := by omega
      have kj : (i : Int) < (no : Int) := by omega
      have h8 : i < 8 := by omega
      have HISI := Lib.hid (fun k X hk => HIS.out i k X h8 hk)
      have HIPI := Lib.hid (fun k X hk => HIP.out i k X h8 hk)
      go_wp2_with fail
      clear c0 HX
      go_loopw [18, 19, 21] (fun v1 v2 i2 wr => ∃ j : Nat, i2 = .int .i64 (j : Int) ∧ j ≤ nw ∧ Two wg.heap.size wr 45 2 v1 (dL q1 nw i ++ dR q1 i j).length (flat (dL q1 nw i ++ dR q1 i j)) v2 (dL q2 nw i ++ dR q2 i j).length (flat (dL q2 nw i ++ dR q2 i j)) ∧ Below wg.heap.size wg wr) (fun _ _ i2 _ => nw - (intOf i2).toNat)
      case atStart => exact ⟨0, rfl, Nat.zero_le _, by rw [dR_zero, List.append_nil, dR_zero, List.append_nil]; exact HT.out, HB.out⟩
      case round =>
        clear HT HB
        obtain ⟨j, rfl, hj, htw, hbl⟩ := hrel
        rename World => wy
        obtain ⟨v1a, v1c, rfl⟩ := own_slice' htw.o1
        obtain ⟨v2a, v2c, rfl⟩ := own_slice' htw.o2
        have HT := Lib.hid htw
        have HB := Lib.hid hbl
        have HX := Lib.hid (HA.out.below hbl)
        clear htw hbl
        have c1 := HX.out.cell (.tail _ (.head _)) 1
        by_cases hlt2 : j < nw
        · have ji : (0 : Int) ≤ (j : Int) := by omega
          have jj : (j : Int) < (nw : Int) := by omega
          have h82 : j < 8 := by omega
          have HCJ := Lib.hid (fun X => HISI.out j X h82)
          have HPJ := Lib.hid (fun X => HIPI.out j X h82)
          have hl1 := dL_len q1 nw i
          have hr1 := dR_len q1 i j
          have hl2 := dL_len q2 nw i
          have hr2 := dR_len q2 i j
          have hmm : nw * i ≤ 8 * 8 := Nat.mul_le_mul (by omega) (by omega)
          have hle1 : (dL q1 nw i ++ dR q1 i j).length ≤ 72 := by rw [List.length_append]; omega
          have hle2 : (dL q2 nw i ++ dR q2 i j).length ≤ 72 := by rw [List.length_append]; omega
          have HCE1 : Hid (dL q1 nw i ++ dR q1 i (j + 1) = (dL q1 nw i ++ dR q1 i j) ++ if q1 i j = true then [((i : Int), (j : Int))] else []) := by unfold Hid; rw [dR_succ, ← List.append_assoc]
          have HCE2 : Hid (dL q2 nw i ++ dR q2 i (j + 1) = (dL q2 nw i ++ dR q2 i j) ++ if q2 i j = true then [((i : Int), (j : Int))] else []) := by unfold Hid; rw [dR_succ, ← List.append_assoc]
          generalize dL q1 nw i ++ dR q1 i j = cl at *
          generalize dL q2 nw i ++ dR q2 i j = c2 at *
          generalize hpr : q1 i j = p1 at HCJ HCE1
          generalize hpr2 : q2 i j = p2 at HPJ HCE2
          clear hpr hpr2 hl1 hr1 hl2 hr2 hmm
          have HGH := Lib.hid (HX.out.bk _ _ _ (.head _)).2
          go_wp2_with (refine wpList_load_row (o := ⟨some 157, .load 40 (.tmp 14), _, _, _, _⟩) rfl 40 (.tmp 14) rfl GB rfl 40 (a8 (gI g)) (0, 0) _ HGH.out Tryz.underlying40 rfl HGS.out ?_)
          refine (HCJ.out _).mono ?_
          rintro _ wx1 ⟨rfl, hb⟩
          have HT' := Lib.hid (HT.out.below hb)
          have HB' := Lib.hid (HB.out.trans (hb.mono HB.out.size))
          clear hb HT HB c1 HGH HX HCJ
          have HT := HT'
          have HB := HB'
          clear HT' HB'
          cases p1
          · have HC1 : Hid (dL q1 nw i ++ dR q1 i (j + 1) = cl) := by unfold Hid; rw [HCE1.out]; simp
            clear HCE1
            have HGH := Lib.hid ((HA.out.below HB.out).bk _ _ _ (.head _)).2
            go_wp2_with (refine wpList_load_row (o := ⟨some 167, .load 40 (.tmp 14), _, _, _, _⟩) rfl 40 (.tmp 14) rfl GB rfl 40 (a8 (gI g)) (0, 0) _ HGH.out Tryz.underlying40 rfl HGS.out ?_)
            refine (HPJ.out _).mono ?_
            rintro _ wx2 ⟨rfl, hb⟩
            have HT' := Lib.hid (HT.out.below hb)
            have HB' := Lib.hid (HB.out.trans (hb.mono HB.out.size))
            clear hb HT HB HGH
            have HT := HT'
            have HB := HB'
            clear HT' HB'
            cases p2
            · have HC2 : Hid (dL q2 nw i ++ dR q2 i (j + 1) = c2) := by unfold Hid; rw [HCE2.out]; simp
              go_wp2_with fail
              go_roundw
              case rel => exact ⟨j + 1, by go_num, by omega, by rw [HC1.out, HC2.out]; exact HT.out, HB.out⟩
              case measure => simp [intOf]; omega
            · have HC2 : Hid (dL q2 nw i ++ dR q2 i (j + 1) = c2 ++ [((i : Int), (j : Int))]) := by unfold Hid; rw [HCE2.out]; simp
              have hsz := HB.out.size
              have hbl := below_alloc wx2 (.cells #[.int .i64 (i : Int), .int .i64 (j : Int)] 45)
              have HN := Lib.hid (World.news_of_block (heap_alloc_new wx2 (.cells #[.int .i64 (i : Int), .int .i64 (j : Int)] 45)))
              have HTA := Lib.hid (HT.out.below hbl)
              have HBA := Lib.hid (HB.out.trans (hbl.mono hsz))
              clear HT HB hbl
              go_wp2_with (at_builtin; refine wpList_append_src _ rfl (.tmp 171) (.tmp 175) 42 rfl wg.heap.size 45 i0 (.agg #[.int .i64 0, .int .i64 0]) 2 16 Tryz.underlying42 hi0 hz0 hz1 hz2 rfl (by decide) (.slice v2a c2.length v2c) c2.length (flat c2) rfl HTA.out.o2 (some ⟨wx2.heap.size, 0, none⟩) 1 1 [.int .i64 (i : Int), .int .i64 (j : Int)] rfl ⟨rfl, fun q u hu => ⟨_, rfl, HN.out q u hu⟩⟩ ?c0 ?c1 ?c2 ?c3 ?_)
              case c0 => simp [Value.oneCell']
              case c1 => unfold maxLen; omega
              case c2 => omega
              case c3 => simp; omega
              intro v' wx3 hown hgr hloc
              have HB : Hid (Below wg.heap.size wg wx3) := HBA.out.trans ((Fr.grown hgr).low HBA.out.size (fun q hq e => by have := own_low HTA.out.o2 e; omega))
              have hown2 : wx3.ownsRow wg.heap.size 45 2 v' (c2 ++ [((i : Int), (j : Int))]).length (flat (c2 ++ [((i : Int), (j : Int))])) := by rw [flat_append, List.length_append]; exact hown
              have HT := Lib.hid ((HTA.out.swap.app1 hown2 hgr (by rw [World.size_alloc]; exact hloc)).swap)
              obtain ⟨v2a, v2c, rfl⟩ := own_slice' hown
              clear hown hown2 hgr hloc HTA HBA HN hsz
              go_wp2_with fail
              go_roundw
              case rel => exact ⟨j + 1, by go_num, by omega, by rw [HC1.out, HC2.out]; exact HT.out, HB.out⟩
              case measure => simp [intOf]; omega
          · have HC1 : Hid (dL q1 nw i ++ dR q1 i (j + 1) = cl ++ [((i : Int), (j : Int))]) := by unfold Hid; rw [HCE1.out]; simp
            clear HCE1
            have hsz := HB.out.size
            have hbl := below_alloc wx1 (.cells #[.int .i64 (i : Int), .int .i64 (j : Int)] 45)
            have HN := Lib.hid (World.news_of_block (heap_alloc_new wx1 (.cells #[.int .i64 (i : Int), .int .i64 (j : Int)] 45)))
            have HTA := Lib.hid (HT.out.below hbl)
            have HBA := Lib.hid (HB.out.trans (hbl.mono hsz))
            clear HT HB hbl
            go_wp2_with (at_builtin; refine wpList_append_src _ rfl (.tmp 161) (.tmp 165) 42 rfl wg.heap.size 45 i0 (.agg #[.int .i64 0, .int .i64 0]) 2 16 Tryz.underlying42 hi0 hz0 hz1 hz2 rfl (by decide) (.slice v1a cl.length v1c) cl.length (flat cl) rfl HTA.out.o1 (some ⟨wx1.heap.size, 0, none⟩) 1 1 [.int .i64 (i : Int), .int .i64 (j : Int)] rfl ⟨rfl, fun q u hu => ⟨_, rfl, HN.out q u hu⟩⟩ ?c0 ?c1 ?c2 ?c3 ?_)
            case c0 => simp [Value.oneCell']
            case c1 => unfold maxLen; omega
            case c2 => omega
            case c3 => simp; omega
            intro v' wx0 hown hgr hloc
            have HB : Hid (Below wg.heap.size wg wx0) := HBA.out.trans ((Fr.grown hgr).low HBA.out.size (fun q hq e => by have := own_low HTA.out.o1 e; omega))
            have hown2 : wx0.ownsRow wg.heap.size 45 2 v' (cl ++ [((i : Int), (j : Int))]).length (flat (cl ++ [((i : Int), (j : Int))])) := by rw [flat_append, List.length_append]; exact hown
            have HT := Lib.hid (HTA.out.app1 hown2 hgr (by rw [World.size_alloc]; exact hloc))
            obtain ⟨v1a, v1c, rfl⟩ := own_slice' hown
            clear hown hown2 hgr hloc HTA HBA HN hsz
            have HGH := Lib.hid ((HA.out.below HB.out).bk _ _ _ (.head _)).2
            go_wp2_with (refine wpList_load_row (o := ⟨some 167, .load 40 (.tmp 14), _, _, _, _⟩) rfl 40 (.tmp 14) rfl GB rfl 40 (a8 (gI g)) (0, 0) _ HGH.out Tryz.underlying40 rfl HGS.out ?_)
            refine (HPJ.out _).mono ?_
            rintro _ wx2 ⟨rfl, hb⟩
            have HT' := Lib.hid (HT.out.below hb)
            have HB' := Lib.hid (HB.out.trans (hb.mono HB.out.size))
            clear hb HT HB HGH
            have HT := HT'
            have HB := HB'
            clear HT' HB'
            cases p2
            · have HC2 : Hid (dL q2 nw i ++ dR q2 i (j + 1) = c2) := by unfold Hid; rw [HCE2.out]; simp
              go_wp2_with fail
              go_roundw
              case rel => exact ⟨j + 1, by go_num, by omega, by rw [HC1.out, HC2.out]; exact HT.out, HB.out⟩
              case measure => simp [intOf]; omega
            · have HC2 : Hid (dL q2 nw i ++ dR q2 i (j + 1) = c2 ++ [((i : Int), (j : Int))]) := by unfold Hid; rw [HCE2.out]; simp
              have hsz := HB.out.size
              have hbl := below_alloc wx2 (.cells #[.int .i64 (i : Int), .int .i64 (j : Int)] 45)
              have HN := Lib.hid (World.news_of_block (heap_alloc_new wx2 (.cells #[.int .i64 (i : Int), .int .i64 (j : Int)] 45)))
              have HTA := Lib.hid (HT.out.below hbl)
              have HBA := Lib.hid (HB.out.trans (hbl.mono hsz))
              clear HT HB hbl
              go_wp2_with (at_builtin; refine wpList_append_src _ rfl (.tmp 171) (.tmp 175) 42 rfl wg.heap.size 45 i0 (.agg #[.int .i64 0, .int .i64 0]) 2 16 Tryz.underlying42 hi0 hz0 hz1 hz2 rfl (by decide) (.slice v2a c2.length v2c) c2.length (flat c2) rfl HTA.out.o2 (some ⟨wx2.heap.size, 0, none⟩) 1 1 [.int .i64 (i : Int), .int .i64 (j : Int)] rfl ⟨rfl, fun q u hu => ⟨_, rfl, HN.out q u hu⟩⟩ ?c0 ?c1 ?c2 ?c3 ?_)
              case c0 => simp [Value.oneCell']
              case c1 => unfold maxLen; omega
              case c2 => omega
              case c3 => simp; omega
              intro v' wx3 hown hgr hloc
              have HB : Hid (Below wg.heap.size wg wx3) := HBA.out.trans ((Fr.grown hgr).low HBA.out.size (fun q hq e => by have := own_low HTA.out.o2 e; omega))
              have hown2 : wx3.ownsRow wg.heap.size 45 2 v' (c2 ++ [((i : Int), (j : Int))]).length (flat (c2 ++ [((i : Int), (j : Int))])) := by rw [flat_append, List.length_append]; exact hown
              have HT := Lib.hid ((HTA.out.swap.app1 hown2 hgr (by rw [World.size_alloc]; exact hloc)).swap)
              obtain ⟨v2a, v2c, rfl⟩ := own_slice' hown
              clear hown hown2 hgr hloc HTA HBA HN hsz
              go_wp2_with fail
              go_roundw
              case rel => exact ⟨j + 1, by go_num, by omega, by rw [HC1.out, HC2.out]; exact HT.out, HB.out⟩
              case measure => simp [intOf]; omega
        · have HE1 : Hid (dL q1 nw i ++ dR q1 i j = dL q1 nw (i + 1)) := by
            have hjl : j = nw := by omega
            unfold Hid; rw [hjl, ← dL_succ]
          have HE2 : Hid (dL q2 nw i ++ dR q2 i j = dL q2 nw (i + 1)) := by
            have hjl : j = nw := by omega
            unfold Hid; rw [hjl, ← dL_succ]
          rw [HE1.out, HE2.out] at HT ⊢
          go_wp2_with fail
          go_roundw
          case rel => exact ⟨i + 1, by go_num, by omega, HT.out, HB.out⟩
          case measure => simp [intOf]; omega
    · obtain rfl : i = no := by omega
      have HS2 := Lib.hid (SkIn.own HT.out.o1)
      have HP2 := Lib.hid (SkIn.own HT.out.o2)
      have HSU' := Lib.hid (HSU.out.below HB.out)
      have HPO' := Lib.hid (HPO.out.below HB.out)
      have HLS' := Lib.hid (HLS.out.below HB.out)
      skip
      have hl1 := dL_len q1 nw i
      have hl2 := dL_len q2 nw i
      have hmm : nw * i ≤ 8 * 8 := Nat.mul_le_mul (by omega) (by omega)
      have hm1 : (dL q1 nw i).length ≤ 100000 := by omega
      have hm2 : (dL q2 nw i).length ≤ 100000 := by omega
      clear HSU HPO HLS hl1 hl2 hmm HT HB HIS HIP
      generalize dL q1 nw i = L1 at *
      generalize dL q2 nw i = L2 at *
      go_wp2_with fail
      refine (pairs_lit L1 _ _ _ _ _ hm1 HSU'.out HS2.out).mono ?_
      rintro _ w30 ⟨rfl, hb⟩
      have HX2 := Lib.hid (HX.out.below hb)
      have HPO2 := Lib.hid (HPO'.out.below hb)
      have HP3 := Lib.hid (HP2.out.below hb)
      have HLS2 := Lib.hid (HLS'.out.below hb)
      skip
      clear hb HX c0
      go_wp2_with fail
      refine (pairs_lit L2 _ _ _ _ _ hm2 HPO2.out HP3.out).mono ?_
      rintro _ w31 ⟨rfl, hb⟩
      have HX3 := Lib.hid (HX2.out.below hb)
      have HLS3 := Lib.hid (HLS2.out.below hb)
      skip
      clear hb HX2
      have hll := HLL.out
      have kl : ((L1.length : Int) != (L2.length : Int)) = true := by simp; omega
      clear hll
      have HX4 := Lib.hid HX3.out
      clear HX3
      go_wp2_with fail
      refine (awake5_any _).mono ?_
      rintro _ w33 ⟨rfl, hb⟩
      have HX5 := Lib.hid (HX4.out.below hb)
      clear hb
      go_wp2_with fail
      go_ret
      exact ⟨rfl, HX5.out.fr⟩
theorem linkMatches_walk (x : FV) (f : Fl) (w : World) (h : FlLaw w x f) : Calls Tryz.prog 12 #[.agg #[.slice x.oa f.no x.oc, .slice x.na f.nw x.nc, .slice x.ma f.nm x.mc]] w fun e w' => e = .returned (.bool true) ∧ Below w.heap.size w w' := by
  cases ht : f.thin
  · exact linkMatches_thick x f w h.l ht
  · by_cases hf : f.fault = 0
    · cases ho : f.only
      · exact linkMatches_tie x f w h.l ht hf ho
      · exact linkMatches_one x f w h.l ht hf ho
    · exact linkMatches_bad x f w h.l ht hf
end Go.Proofs.YtgbdbikjckfgmaaGreat
