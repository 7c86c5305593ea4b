/- Clone of a row of ranges; a table with births behind its last census. | Project. Printed by gen_gf.py. | Lists of cells that are appended to; Clone of them; Collect. | Collect of the cells. | Leave: the search, in memory; at its end. -/
import Derived.Test.YtjaoflfophcibaaPF
import Derived.Lib.SliceRun
import Derived.OwnWalkIn
import Derived.Deep.MidRow
namespace Go.Proofs.Ytjaoflfophcibaa
open Go.RowKit Go.Shelf

theorem addr_add (g o j : Nat) : (⟨g, o, none⟩ : Addr).add j = ⟨g, o + j, none⟩ := Addr.add_mid g o j
theorem RsAt.src {W : World} {b off cap n : Nat} {R : Nat → R2} (h : RsAt W (.slice (some ⟨b, off, none⟩) n cap) n R) : Src W (some ⟨b, off, none⟩) 2 n (flatR R n) := by
  refine ⟨flatR_length R n, fun j u hu => ⟨_, rfl, ?_⟩⟩
  have hj : j < n * 2 := by
    have := (List.getElem?_eq_some_iff.1 hu).1; rw [flatR_length] at this; exact this
  rcases h with ⟨h, _⟩ | ⟨b', off', cap', e, _, hz⟩
  · cases h
  · cases e
    obtain ⟨h0, h1⟩ := hz (j / 2) (by omega)
    obtain ⟨f0, f1⟩ := flatR_get R n (j / 2) (by omega)
    rw [addr_add]
    rcases Nat.mod_two_eq_zero_or_one j with e | e
    · rw [show j = j / 2 * 2 from by omega] at hu ⊢
      rw [f0] at hu; cases hu; exact h0
    · rw [show j = j / 2 * 2 + 1 from by omega] at hu ⊢
      rw [f1] at hu; cases hu
      rw [show off + (j / 2 * 2 + 1) = off + j / 2 * 2 + 1 from by omega]; exact h1
set_option maxRecDepth 100000 in
set_option maxHeartbeats 2000000 in
theorem clone_rs (v : Value) (n : Nat) (R : Nat → R2) (w : World) (hn : n ≤ 1000) (h : RsAt w v n R) :
    Calls Try.prog 72 #[v] w fun e w' => ∃ v', e = .returned v' ∧ w'.ownsRow w.heap.size 29 2 v' n (flatR R n) ∧ Below w.heap.size w w' := by
  have h0 := h
  rcases h with ⟨rfl, rfl⟩ | ⟨b, off, cap, rfl, hb, hz⟩
  · have hnil : ∀ W : World, (binOp .eql 34 (.slice none 0 0) (.slice none 0 0)).run Try.prog W = .ok (.bool true) W := fun W => Lib.run_eql_slice_nil W 34 29 none 0 0 0 0 Try.underlying34
    clear h0
    go_enter Try.func72, Try.ntmps72
    go_wp2
    go_ret
    exact ⟨_, rfl, World.ownsRow_nil _ _ _ _, Below.refl _ _⟩
  · obtain ⟨i0, hi0, hz0, hz1, hz2⟩ := info_parts Try.infoRangeF
    have HSRC : Hid (Src (w.alloc (.cells #[] 29)) (some ⟨b, off, none⟩) 2 n (flatR R n)) := (h0.below (below_alloc _ _)).src
    clear h0 hz
    have hnil : ∀ W : World, (binOp .eql 34 (.slice (some ⟨b, off, none⟩) n cap) (.slice none 0 0)).run Try.prog W = .ok (.bool false) W := fun W => Lib.run_eql_slice_nil W 34 29 (some ⟨b, off, none⟩) n cap 0 0 Try.underlying34
    go_enter Try.func72, Try.ntmps72
    go_wp2_with (at_builtin; refine wpList_append_src _ rfl (.tmp 5) (.tmp 6) 34 rfl w.heap.size 29 i0 (.agg #[.int .i64 0, .int .i64 0]) 2 16 Try.underlying34 hi0 hz0 hz1 hz2 rfl (by decide) (.slice (some ⟨w.heap.size, 0, none⟩) 0 0) 0 [] rfl (own_empty w 29 2 w.heap.size (Nat.le_refl _)) (some ⟨b, off, none⟩) n cap (flatR R n) rfl HSRC.out (flatR_one _ _) ?a1 ?a2 ?a3 ?_)
    case a1 => unfold maxLen; omega
    case a2 => omega
    case a3 => simp
    intro v1 w1 hown hgr hlt
    have HB : Hid (Below w.heap.size w w1) := (below_alloc w _).grown hgr (by simp) (fun k hk => by cases hk; exact Nat.le_refl _)
    have HO : Hid (w1.ownsRow w.heap.size 29 2 v1 n (flatR R n)) := hown
    clear hown hgr hlt
    go_wp2
    go_ret
    exact ⟨_, rfl, HO.out, HB.out⟩
/-- The same table, one census more of births. -/
def Tb.more (t : Tb) : Tb := { t with nb := t.nb + 1 }
theorem more_before (t : Tb) (out : Nat → Nat → Bool) : ∀ c g, t.more.before out c g = t.before out c g := by
  intro c
  induction c with
  | zero => intro g; rfl
  | succ c ih =>
    intro g
    show t.more.arr c g _ = t.arr c g _
    have : (fun g' => meetR (t.more.before out c g') (t.more.own out c g')) = (fun g' => meetR (t.before out c g') (t.own out c g')) := by
      funext g'; rw [ih g']; rfl
    rw [this]; rfl
theorem more_memo (t : Tb) (out : Nat → Nat → Bool) : t.more.memo out = t.memo out := by
  funext c g; exact more_before t out _ _
theorem Gd.more {t : Tb} (h : Gd t) (hn : t.nb + 1 = t.nc) (hb : isCountR (t.b t.nb) = true) : Gd t.more :=
  ⟨⟨h.small.1, h.small.2.1, by have := h.nc4; show t.nb + 1 ≤ _; omega, h.small.2.2.2.1, h.small.2.2.2.2⟩, h.ng2, h.ng4, h.nc1, h.nc4, h.rl, by show t.nc ≤ t.nb + 1 + 1; omega, h.nr, h.nn, h.r, fun j hj => by
    have hj' : j < t.nb + 1 := hj
    rcases Nat.lt_succ_iff_lt_or_eq.1 hj' with h2 | h2
    · exact h.b j h2
    · subst h2; exact hb, h.n⟩
theorem isCount_any' (r : R2) (w : World) : Calls Try.prog 70 #[.agg #[.int .i64 r.1, .int .i64 r.2]] w fun e w' => e = .returned (.bool (isCountR r)) ∧ Below w.heap.size w w' := isCount_any r.1 r.2 w
/-- What Project returns. -/
def projE (t : Tb) : Int := if t.fault ≠ 0 then t.fault else if isCountR (t.b t.nb) = true then (if t.agree off0 = true ∧ (∀ g, g < t.ng → emptyR (t.before off0 t.nc g) = false) then 0 else 9) else 2
end Go.Proofs.Ytjaoflfophcibaa

namespace Go.Proofs.Ytjaoflfophcibaa
open Go.RowKit Go.Shelf

theorem BF.made2 (w : World) (c1 c2 : Array Value) (t1 t2 : TypeId) : BF w ((w.alloc (.cells c1 t1)).alloc (.cells c2 t2)) [(w.heap.size, c1, t1), (w.heap.size + 1, c2, t2)] := by
  have h := ((BF.base w).alloc c1 t1).alloc c2 t2
  rw [World.size_alloc] at h
  exact h.sub (List.forall_mem_cons.2 ⟨.tail _ (.head _), List.forall_mem_cons.2 ⟨.head _, List.forall_mem_nil _⟩⟩)
set_option maxRecDepth 100000 in
set_option maxHeartbeats 1000000 in
theorem Project_bad (x : WV) (t : Tb) (hs : t.small) (w : World) (hl : WL w x t) (hf : t.fault ≠ 0) (b0 b1 : Int) :
    Calls Try.prog 31 #[.agg #[x.cv t, x.bv t, x.rv t, x.nv t], .agg #[.int .i64 b0, .int .i64 b1]] w fun e w' => e = .returned (.tuple #[.slice none 0 0, .int .i64 t.fault]) ∧ Below w.heap.size w w' := by
  have HC : Hid (∀ X, Below w.heap.size w X → Calls Try.prog 47 #[.agg #[x.cv t, x.bv t, x.rv t, x.nv t]] X fun e w' => e = .returned (.int .i64 t.fault) ∧ Below X.heap.size X w') := fun X hX => check_any _ t X (hl.below hX).tb hs
  have hq : (t.fault != 0) = true := by simp [hf]
  clear hl hs hf
  generalize t.fault = f at *
  unfold WV.cv WV.bv WV.rv WV.nv at *
  go_enter Try.func31, Try.ntmps31
  go_wp2_with (go_at_call 47; refine (HC.out _ ((below_alloc _ _).alloc (by simp) _)).mono ?_; rintro _ w1 ⟨rfl, hb1⟩)
  go_ret2
  exact ⟨rfl, below_step ((below_alloc _ _).alloc (by simp) _) hb1⟩
set_option maxRecDepth 100000 in
set_option maxHeartbeats 1000000 in
theorem Project_births (x : WV) (t : Tb) (hs : t.small) (w : World) (hl : WL w x t) (hf : t.fault = 0) (b0 b1 : Int) (hb : isCountR (b0, b1) = false) :
    Calls Try.prog 31 #[.agg #[x.cv t, x.bv t, x.rv t, x.nv t], .agg #[.int .i64 b0, .int .i64 b1]] w fun e w' => e = .returned (.tuple #[.slice none 0 0, .int .i64 2]) ∧ Below w.heap.size w w' := by
  have HC : Hid (∀ X, Below w.heap.size w X → Calls Try.prog 47 #[.agg #[x.cv t, x.bv t, x.rv t, x.nv t]] X fun e w' => e = .returned (.int .i64 0) ∧ Below X.heap.size X w') := fun X hX => by rw [← hf]; exact check_any _ t X (hl.below hX).tb hs
  clear hl hs hf
  unfold WV.cv WV.bv WV.rv WV.nv at *
  have HA0 := Lib.hid (BF.made2 w #[.slice x.ca t.nc x.cc, .slice x.ba t.nb x.bc, .slice x.ra t.nr x.rc, .slice x.na t.nn x.nc] #[.int .i64 b0, .int .i64 b1] 36 29)
  go_enter Try.func31, Try.ntmps31
  go_wp2_with (first | (go_at_call 47; refine (HC.out _ HA0.out.fr).mono ?_; rintro _ w1 ⟨rfl, hb1⟩; have HA1 := Lib.hid (HA0.out.below hb1); have e0 := HA1.out.cell (.tail _ (.head _)) 0; have e1 := HA1.out.cell (.tail _ (.head _)) 1; clear hb1) | (go_at_call 70; refine (isCount_any _ _ _).mono ?_; rw [hb]; rintro _ w2 ⟨rfl, hb2⟩))
  go_ret2
  exact ⟨rfl, below_step HA1.out.fr hb2⟩
set_option maxRecDepth 100000 in
set_option maxHeartbeats 1000000 in
theorem Project_fail (x : WV) (t : Tb) (hs : t.small) (w : World) (hl : WL w x t) (hf : t.fault = 0) (b0 b1 : Int) (hb : isCountR (b0, b1) = true) (ha : t.agree off0 = false) :
    Calls Try.prog 31 #[.agg #[x.cv t, x.bv t, x.rv t, x.nv t], .agg #[.int .i64 b0, .int .i64 b1]] w fun e w' => e = .returned (.tuple #[.slice none 0 0, .int .i64 9]) ∧ Below w.heap.size w w' := by
  have HC : Hid (∀ X, Below w.heap.size w X → Calls Try.prog 47 #[.agg #[x.cv t, x.bv t, x.rv t, x.nv t]] X fun e w' => e = .returned (.int .i64 0) ∧ Below X.heap.size X w') := fun X hX => by rw [← hf]; exact check_any _ t X (hl.below hX).tb hs
  have HBO : Hid (∀ X, Below w.heap.size w X → Calls Try.prog 71 #[.agg #[x.cv t, x.bv t, x.rv t, x.nv t]] X fun e w' => e = .returned (.tuple #[.pointer none, .int .i64 9]) ∧ Below X.heap.size X w') := fun X hX => (bounded_any x t hs X (hl.below hX) hf false ha).mono (fun _ _ ⟨B, bm, h1, _, _, _, h2⟩ => ⟨h1, h2⟩)
  clear hl hs hf ha
  unfold WV.cv WV.bv WV.rv WV.nv at *
  have HA0 := Lib.hid (BF.made2 w #[.slice x.ca t.nc x.cc, .slice x.ba t.nb x.bc, .slice x.ra t.nr x.rc, .slice x.na t.nn x.nc] #[.int .i64 b0, .int .i64 b1] 36 29)
  go_enter Try.func31, Try.ntmps31
  go_wp2_with (first | (go_at_call 47; refine (HC.out _ HA0.out.fr).mono ?_; rintro _ w1 ⟨rfl, hb1⟩; have HA1 := Lib.hid (HA0.out.below hb1); have e0 := HA1.out.cell (.tail _ (.head _)) 0; have e1 := HA1.out.cell (.tail _ (.head _)) 1; clear hb1) | (go_at_call 70; refine (isCount_any _ _ _).mono ?_; rw [hb]; rintro _ w2 ⟨rfl, hb2⟩; have HA2 := Lib.hid (HA1.out.below hb2); have d0 := HA2.out.cell (.head _) 0; have d1 := HA2.out.cell (.head _) 1; have d2 := HA2.out.cell (.head _) 2; have d3 := HA2.out.cell (.head _) 3; clear hb2 e0 e1) | (go_at_call 71; refine (HBO.out _ HA2.out.fr).mono ?_; rintro _ w3 ⟨rfl, hb3⟩))
  go_ret2
  exact ⟨rfl, below_step HA2.out.fr hb3⟩
theorem workA_set1 (cv bv rv nv v : Value) (out : Nat → Nat → Bool) (bm : Nat) : (workA cv bv rv nv out bm).setIfInBounds 1 v = workA cv v rv nv out bm := rfl
/-- Behind the store of the births. -/
theorem St.births {w W5 Y : World} {B bm n : Nat} {x : WV} {t : Tb} (h5 : St W5 B bm n x t off0) (hl : WL w x t) (hw : Below w.heap.size w W5) (hwB : w.heap.size ≤ B) (hY : Below W5.heap.size W5 Y) {ra : Option Addr} {rc : Nat}
    (ho : Y.ownsRow W5.heap.size 29 2 (.slice ra (t.nb + 1) rc) (t.nb + 1) (flatR t.b (t.nb + 1))) :
    St (Y.setCell ⟨B, 1, none⟩ (.slice ra (t.nb + 1) rc)) B bm n { x with ba := ra, bc := rc } t.more off0 ∧ Below w.heap.size w (Y.setCell ⟨B, 1, none⟩ (.slice ra (t.nb + 1) rc)) := by
  have hB5 := (Array.getElem?_eq_some_iff.1 h5.wb).1
  have hB : Y.heap[B]? = some (.cells (workA (x.cv t) (x.bv t) (x.rv t) (x.nv t) off0 bm) 126 (0, 0)) := (hY.block B hB5).trans h5.wb
  have hf := Fr.set Y B 1 (.slice ra (t.nb + 1) rc)
  have hb : Below w.heap.size w (Y.setCell ⟨B, 1, none⟩ (.slice ra (t.nb + 1) rc)) := (hw.trans (hY.mono hw.size)).trans (hf.low (by have := hw.size; have := hY.size; omega) (fun q hq e => by omega))
  have hwl := hl.below hb
  have hne := h5.ne
  refine ⟨⟨?_, ⟨hwl.1, ?_, hwl.2.2.1, hwl.2.2.2⟩, ?_⟩, hb⟩
  · unfold WB
    have e : (Y.setCell ⟨B, 1, none⟩ (.slice ra (t.nb + 1) rc)).heap[B]? = some (.cells ((workA (x.cv t) (x.bv t) (x.rv t) (x.nv t) off0 bm).setIfInBounds 1 (.slice ra (t.nb + 1) rc)) 126 (0, 0)) := by
      simp [World.setCell, Array.getElem?_modify, hB]
    rw [e, workA_set1]; rfl
  · exact RsAt.own (own_fr ho hf (fun g cur _ hb _ e => by omega))
  · have hc := (h5.cm.below hY).setCell (p := ⟨B, 1, none⟩) hne (.slice ra (t.nb + 1) rc)
    rw [more_memo]; exact hc
attribute [local go_sem ↓] Go.wp_at_zero Go.wp_at_succ
set_option maxRecDepth 100000 in
set_option maxHeartbeats 4000000 in
theorem Project_ok (x : WV) (t : Tb) (hs : t.small) (w : World) (hl : WL w x t) (hf : t.fault = 0) (b0 b1 : Int) (hbt : t.b t.nb = (b0, b1)) (hb : isCountR (b0, b1) = true) (ha : t.agree off0 = true) :
    Calls Try.prog 31 #[.agg #[x.cv t, x.bv t, x.rv t, x.nv t], .agg #[.int .i64 b0, .int .i64 b1]] w fun e w' => ((∃ g, g < t.ng ∧ emptyR (t.before off0 t.nc g) = true) ∧ e = .returned (.tuple #[.slice none 0 0, .int .i64 9]) ∨ (∀ g, g < t.ng → emptyR (t.before off0 t.nc g) = false) ∧ ∃ v, e = .returned (.tuple #[v, .int .i64 0]) ∧ RsAt w' v t.ng (t.before off0 t.nc)) ∧ Below w.heap.size w w' := by
  have hG := Gd.of_fault hs hf
  have hnb1 : t.nb + 1 = t.nc := (fault_facts hf).2.2.2.2.1
  have hGM := hG.more hnb1 (by rw [hbt]; exact hb)
  have ng2 := hG.ng2; have ng4 := hG.ng4; have nc1 := hG.nc1; have nc4 := hG.nc4
  obtain ⟨i0, hi0, hz0, hz1, hz2⟩ := info_parts Try.infoRangeF
  have HC : Hid (∀ X, Below w.heap.size w X → Calls Try.prog 47 #[.agg #[x.cv t, x.bv t, x.rv t, x.nv t]] X fun e w' => e = .returned (.int .i64 0) ∧ Below X.heap.size X w') := fun X hX => by rw [← hf]; exact check_any _ t X (hl.below hX).tb hs
  have HBO : Hid (∀ X, Below w.heap.size w X → Calls Try.prog 71 #[.agg #[x.cv t, x.bv t, x.rv t, x.nv t]] X fun e w' => ∃ B bm, e = .returned (.tuple #[.pointer (some ⟨B, 0, none⟩), .int .i64 0]) ∧ St w' B bm 340 x t off0 ∧ X.heap.size ≤ B ∧ X.heap.size ≤ bm ∧ Below X.heap.size X w') := fun X hX => bounded_any x t hs X (hl.below hX) hf true ha
  have HGR : Hid (∀ X, Below w.heap.size w X → Calls Try.prog 57 #[.agg #[x.cv t, x.bv t, x.rv t, x.nv t]] X fun e w' => e = .returned (.int .i64 (t.ng : Nat)) ∧ Below X.heap.size X w') := fun X hX => groups_any _ t X (hl.below hX).tb hs
  have HL := Lib.hid hl; have HGM := Lib.hid hGM
  have HARR : Hid (∀ (B bm : Nat) (y : WV) (g n : Nat) (W : World), g < t.ng → n + 340 ≤ 90000 → St W B bm n y t.more off0 → Calls Try.prog 73 #[.pointer (some ⟨B, 0, none⟩), .agg #[.int .i64 t.nc, .int .i64 g]] W (GivesR W B bm (n + 340) y t.more off0 (t.before off0 t.nc g))) := fun B bm y g n W hg hn hst => by
    have h := arrive_all hGM (show t.nb + 1 = t.nc from hnb1) B bm y off0 g hg n hn W hst
    have e : t.more.before off0 t.more.nc g = t.before off0 t.nc g := more_before t off0 _ _
    rw [e] at h; exact h
  have HBB := Lib.hid hbt
  obtain ⟨hnb1a, hnb1b⟩ : t.nb + 1 ≤ t.nc ∧ t.nc ≤ t.nb + 1 := by omega
  clear hl hs hf ha hG hGM hbt hnb1
  unfold WV.cv WV.bv WV.rv WV.nv at HC HBO HGR ⊢
  have HA0 := Lib.hid (BF.made2 w #[.slice x.ca t.nc x.cc, .slice x.ba t.nb x.bc, .slice x.ra t.nr x.rc, .slice x.na t.nn x.nc] #[.int .i64 b0, .int .i64 b1] 36 29)
  go_enter Try.func31, Try.ntmps31
  go_wp2_with (first | (go_at_call 47; refine (HC.out _ HA0.out.fr).mono ?_; rintro _ w1 ⟨rfl, hb1⟩; have HA1 := Lib.hid (HA0.out.below hb1); have e0 := HA1.out.cell (.tail _ (.head _)) 0; have e1 := HA1.out.cell (.tail _ (.head _)) 1; clear hb1) | (go_at_call 70; refine (isCount_any _ _ _).mono ?_; rw [hb]; rintro _ w2 ⟨rfl, hb2⟩; have HA2 := Lib.hid (HA1.out.below hb2); have d0 := HA2.out.cell (.head _) 0; have d1 := HA2.out.cell (.head _) 1; have d2 := HA2.out.cell (.head _) 2; have d3 := HA2.out.cell (.head _) 3; have hz2w := HA2.out.fr.size; clear hb2 e0 e1) | (go_at_call 71; refine (HBO.out _ HA2.out.fr).mono ?_; rintro _ w5 ⟨B, bm, rfl, hs5, hwB, hwm, hb5⟩; have HS5 := Lib.hid hs5; have HA5 := Lib.hid (HA2.out.below hb5); clear hs5 hb5 d0 d1 d2 d3))
  have hB5 : B < w5.heap.size := (Array.getElem?_eq_some_iff.1 HS5.out.wb).1
  have HW5 := Lib.hid HA5.out.fr
  have HWB5 : Hid (w5.heap[B]? = some (.cells (workA (.slice x.ca t.nc x.cc) (.slice x.ba t.nb x.bc) (.slice x.ra t.nr x.rc) (.slice x.na t.nn x.nc) off0 bm) 126 (0, 0))) := HS5.out.wb
  have hT2 := (HA2.out.lt (.head _)).2
  have hS2 := (HA2.out.lt (.tail _ (.head _))).2
  have HTB5 : Hid (w5.heap[w.heap.size]? = some (.cells #[.slice x.ca t.nc x.cc, .slice x.ba t.nb x.bc, .slice x.ra t.nr x.rc, .slice x.na t.nn x.nc] 36 (0, 0))) := (HA5.out.bk _ _ _ (.head _)).2
  have HCK : Hid (∀ X, Below w5.heap.size w5 X → X.cell? ⟨w.heap.size, 1, none⟩ = some (.slice x.ba t.nb x.bc) ∧ X.cell? ⟨w.heap.size + 1, 0, none⟩ = some (.int .i64 b0) ∧ X.cell? ⟨w.heap.size + 1, 1, none⟩ = some (.int .i64 b1)) := fun X hX => by
    have h0 := HA5.out.bk _ _ _ (.head _)
    have h1 := HA5.out.bk _ _ _ (.tail _ (.head _))
    have g0 := (hX.block _ (Array.getElem?_eq_some_iff.1 h0.2).1).trans h0.2
    have g1 := (hX.block _ (Array.getElem?_eq_some_iff.1 h1.2).1).trans h1.2
    exact ⟨cell_of_row _ _ 1 _ _ _ g0, cell_of_row _ _ 0 _ _ _ g1, cell_of_row _ _ 1 _ _ _ g1⟩
  have HCL : Hid (∀ X, Below w5.heap.size w5 X → Calls Try.prog 72 #[.slice x.ba t.nb x.bc] X fun e w' => ∃ v', e = .returned v' ∧ w'.ownsRow X.heap.size 29 2 v' t.nb (flatR t.b t.nb) ∧ Below X.heap.size X w') := fun X hX => clone_rs _ t.nb t.b X (by omega) (HL.out.below (below_step HW5.out hX |>.mono (Nat.le_refl _))).2.1
  have HTB2 : Hid (∀ Y, Below w5.heap.size w5 Y → ∀ v, (Y.setCell ⟨B, 1, none⟩ v).heap[w.heap.size]? = some (.cells #[.slice x.ca t.nc x.cc, .slice x.ba t.nb x.bc, .slice x.ra t.nr x.rc, .slice x.na t.nn x.nc] 36 (0, 0))) := fun Y hY v => ((Fr.set Y B 1 v).block _ (by have := hY.size; omega) (by omega)).trans ((hY.block _ (by omega)).trans HTB5.out)
  have HST : Hid (∀ Y ra rc, Below w5.heap.size w5 Y → Y.ownsRow w5.heap.size 29 2 (.slice ra (t.nb + 1) rc) (t.nb + 1) (flatR t.b (t.nb + 1)) → St (Y.setCell ⟨B, 1, none⟩ (.slice ra (t.nb + 1) rc)) B bm 340 { x with ba := ra, bc := rc } t.more off0 ∧ Below w.heap.size w (Y.setCell ⟨B, 1, none⟩ (.slice ra (t.nb + 1) rc))) := fun Y ra rc hY ho => St.births HS5.out HL.out HW5.out (by omega) hY ho
  go_cut [28] (fun s28 wx => ∃ ra rc, (St wx B bm 340 { x with ba := ra, bc := rc } t.more off0 ∧ Below w.heap.size w wx) ∧ wx.heap[w.heap.size]? = some (.cells #[.slice x.ca t.nc x.cc, .slice x.ba t.nb x.bc, .slice x.ra t.nr x.rc, .slice x.na t.nn x.nc] 36 (0, 0)))
  case first =>
    have HAX : Hid (BF w5 w5.drew []) := (BF.base w5).below ((Below.refl _ _).drew)
    clear HA1 HA2 HA5
    refine wp_region_held_drew (S := fun X => X.cell? ⟨w.heap.size, 1, none⟩ = some (.slice x.ba t.nb x.bc) ∧ X.cell? ⟨w.heap.size + 1, 0, none⟩ = some (.int .i64 b0) ∧ X.cell? ⟨w.heap.size + 1, 1, none⟩ = some (.int .i64 b1)) (by kernel_rfl) (HCK.out _ HAX.out.fr) (fun hS => ?_)
    generalize w5.drew = X at *
    refine tk [0, 1, 2, 4] ?_
    repeat (refine tkH (oi := ⟨_, _, _, _, _, _⟩) (v := ?_) rfl (by kernel_rfl) (by rfl) (fun _ _ _ h => h) hS ?_ ?_; rotate_left; (· rintro W' ⟨z0, z1, z2⟩; go_simp; try with_reducible rfl); try simp only [Act.put, putA, putZ, putS])
    refine tk0 ?_
    refine wpAnyH_ready (rs := [3, 5]) (by kernel_rfl) (by simp) ?_
    refine AllReadyH.cons (o := ⟨some 31, _, _, _, _, _⟩) rfl (fun K hK => ?_) ?_
    ·
      go_simp
      refine (HCL.out X HAX.out.fr).mono ?_
      rintro _ X0 ⟨v0, rfl, ho0, hb0⟩
      (try go_wp2_with fail)
      obtain ⟨ra0, rc0, rfl⟩ := own_slice' ho0
      have HR0 : Hid (X0.ownsRow w5.heap.size 29 2 (.slice ra0 t.nb rc0) t.nb (flatR t.b t.nb)) := own_mono ho0 HAX.out.fr.size
      have HA0 := Lib.hid (HAX.out.below hb0)
      refine hK.out _ _ (HCK.out X0 HA0.out.fr) (fun hS => ?_)
      clear hK K
      try simp only [Act.put, putA, putZ, putS]
      clear hb0 ho0
      refine wpAnyH_ready (rs := [5]) (by kernel_rfl) (by simp) ?_
      refine AllReadyH.cons (o := ⟨some 33, _, _, _, _, _⟩) rfl (fun K hK => ?_) AllReadyH.nil
      have HR1 : Hid ((X0.alloc (.cells #[.int .i64 b0, .int .i64 b1] 29)).ownsRow w5.heap.size 29 2 (.slice ra0 t.nb rc0) t.nb (flatR t.b t.nb)) := HR0.out.alloc _
      go_simp
      have HA1 := Lib.hid (HA0.out.alloc #[.int .i64 b0, .int .i64 b1] 29)
      have hn1_ := HA0.out.fr.size
      refine hK.out _ _ (HCK.out (X0.alloc (.cells #[.int .i64 b0, .int .i64 b1] 29)) HA1.out.fr) (fun hS => ?_)
      clear hK K
      try simp only [Act.put, putA, putZ, putS]
      generalize X0.heap.size = J1 at *
      generalize (X0.alloc (.cells #[.int .i64 b0, .int .i64 b1] 29)) = X1 at *
      refine wpAnyH_ready (rs := [6]) (by kernel_rfl) (by simp) ?_
      refine AllReadyH.cons (o := ⟨some 34, _, _, _, _, _⟩) rfl (fun K hK => ?_) AllReadyH.nil
      refine step_append_src X1 (by rfl) (.tmp 31) (.tmp 33) 34 (by rfl) w5.heap.size 29 i0 (.agg #[.int .i64 0, .int .i64 0]) 2 16 Try.underlying34 hi0 hz0 hz1 hz2 rfl (by decide) (.slice ra0 t.nb rc0) t.nb (flatR t.b t.nb) (by rfl) HR1.out (some ⟨J1, 0, none⟩) 1 1 [.int .i64 b0, .int .i64 b1] (by rfl) ⟨rfl, fun j u hu => ⟨_, rfl, World.news_of_block (HA1.out.bk _ _ _ (.head _)).2 j u hu⟩⟩ (by simp [Value.oneCell']) (by unfold maxLen; omega) (by omega) HA1.out.fr.size ?_
      intro v1 Y hown hgr hlt
      obtain ⟨ra9, rc9, rfl⟩ := own_slice' hown
      have hbY : Below w5.heap.size w5 Y := HA1.out.fr.grown hgr HA1.out.fr.size (fun k hk => (HR1.out.lt k hk).1)
      have hBY : Y.heap[B]? = some (.cells (workA (.slice x.ca t.nc x.cc) (.slice x.ba t.nb x.bc) (.slice x.ra t.nr x.rc) (.slice x.na t.nn x.nc) off0 bm) 126 (0, 0)) := (hbY.block B hB5).trans HWB5.out
      have HBY := Lib.hid hBY
      have fB := frozen_of_row _ _ 1 _ _ hBY
      have cB : Y.cell? ⟨B, 1, none⟩ = some (.slice x.ba t.nb x.bc) := cell_of_row _ _ 1 _ _ _ hBY
      have HOY : Hid (Y.ownsRow w5.heap.size 29 2 (.slice ra9 (t.nb + 1) rc9) (t.nb + 1) (flatR t.b (t.nb + 1))) := by unfold Hid; rw [flatR_succ, HBB.out]; exact hown
      have HBW := Lib.hid hbY
      have hYS := HCK.out Y hbY
      clear hown hgr hlt hbY hBY
      refine hK.out _ _ hYS (fun hS => ?_)
      clear hK K
      try simp only [Act.put, putA, putZ, putS]
      refine tk [7, 8, 9] ?_
      repeat (refine tkH (oi := ⟨_, _, _, _, _, _⟩) (v := ?_) rfl (by kernel_rfl) (by rfl) (fun _ _ _ h => h) hS ?_ ?_; rotate_left; (· rintro W' ⟨z0, z1, z2⟩; go_simp; try with_reducible rfl); try simp only [Act.put, putA, putZ, putS])
      refine tk0 ?_
      refine wpAnyH_ready (rs := [10]) (by kernel_rfl) (by simp) ?_
      refine AllReadyH.cons (o := ⟨none, _, _, _, _, _⟩) rfl (fun K hK => ?_) AllReadyH.nil
      have hSY : (Y.setCell ⟨B, 1, none⟩ (.slice ra9 (t.nb + 1) rc9)).cell? ⟨w.heap.size, 1, none⟩ = some (.slice x.ba t.nb x.bc) ∧ (Y.setCell ⟨B, 1, none⟩ (.slice ra9 (t.nb + 1) rc9)).cell? ⟨w.heap.size + 1, 0, none⟩ = some (.int .i64 b0) ∧ (Y.setCell ⟨B, 1, none⟩ (.slice ra9 (t.nb + 1) rc9)).cell? ⟨w.heap.size + 1, 1, none⟩ = some (.int .i64 b1) := by
        obtain ⟨s0, s1, s2⟩ := hS
        refine ⟨?_, ?_, ?_⟩ <;> (rw [World.cell?_setCell_far] <;> first | assumption | (simp <;> omega))
      have HSY := Lib.hid hSY
      clear hSY
      go_simp
      refine hK.out _ _ HSY.out (fun hS => ?_)
      clear hK K fB cB
      (try simp only [Act.put])
      refine wpAnyH_done (by kernel_rfl) ?_ _
      go_wp2_with fail
      go_meet
      exact ⟨ra9, rc9, HST.out Y ra9 rc9 HBW.out HOY.out, HTB2.out Y HBW.out _⟩
    refine AllReadyH.cons (o := ⟨some 33, _, _, _, _, _⟩) rfl (fun K hK => ?_) AllReadyH.nil
    go_simp
    have HA4 := Lib.hid (HAX.out.alloc #[.int .i64 b0, .int .i64 b1] 29)
    have hn4_ := HAX.out.fr.size
    refine hK.out _ _ (HCK.out (X.alloc (.cells #[.int .i64 b0, .int .i64 b1] 29)) HA4.out.fr) (fun hS => ?_)
    clear hK K
    try simp only [Act.put, putA, putZ, putS]
    generalize X.heap.size = J4 at *
    generalize (X.alloc (.cells #[.int .i64 b0, .int .i64 b1] 29)) = X4 at *
    refine wpAnyH_ready (rs := [3]) (by kernel_rfl) (by simp) ?_
    refine AllReadyH.cons (o := ⟨some 31, _, _, _, _, _⟩) rfl (fun K hK => ?_) AllReadyH.nil
    go_simp
    refine (HCL.out X4 HA4.out.fr).mono ?_
    rintro _ X5 ⟨v5, rfl, ho5, hb5⟩
    (try go_wp2_with fail)
    obtain ⟨ra5, rc5, rfl⟩ := own_slice' ho5
    have HR5 : Hid (X5.ownsRow w5.heap.size 29 2 (.slice ra5 t.nb rc5) t.nb (flatR t.b t.nb)) := own_mono ho5 HA4.out.fr.size
    have HA5 := Lib.hid (HA4.out.below hb5)
    refine hK.out _ _ (HCK.out X5 HA5.out.fr) (fun hS => ?_)
    clear hK K
    try simp only [Act.put, putA, putZ, putS]
    clear hb5 ho5
    refine wpAnyH_ready (rs := [6]) (by kernel_rfl) (by simp) ?_
    refine AllReadyH.cons (o := ⟨some 34, _, _, _, _, _⟩) rfl (fun K hK => ?_) AllReadyH.nil
    refine step_append_src X5 (by rfl) (.tmp 31) (.tmp 33) 34 (by rfl) w5.heap.size 29 i0 (.agg #[.int .i64 0, .int .i64 0]) 2 16 Try.underlying34 hi0 hz0 hz1 hz2 rfl (by decide) (.slice ra5 t.nb rc5) t.nb (flatR t.b t.nb) (by rfl) HR5.out (some ⟨J4, 0, none⟩) 1 1 [.int .i64 b0, .int .i64 b1] (by rfl) ⟨rfl, fun j u hu => ⟨_, rfl, World.news_of_block (HA5.out.bk _ _ _ (.head _)).2 j u hu⟩⟩ (by simp [Value.oneCell']) (by unfold maxLen; omega) (by omega) HA5.out.fr.size ?_
    intro v1 Y hown hgr hlt
    obtain ⟨ra9, rc9, rfl⟩ := own_slice' hown
    have hbY : Below w5.heap.size w5 Y := HA5.out.fr.grown hgr HA5.out.fr.size (fun k hk => (HR5.out.lt k hk).1)
    have hBY : Y.heap[B]? = some (.cells (workA (.slice x.ca t.nc x.cc) (.slice x.ba t.nb x.bc) (.slice x.ra t.nr x.rc) (.slice x.na t.nn x.nc) off0 bm) 126 (0, 0)) := (hbY.block B hB5).trans HWB5.out
    have HBY := Lib.hid hBY
    have fB := frozen_of_row _ _ 1 _ _ hBY
    have cB : Y.cell? ⟨B, 1, none⟩ = some (.slice x.ba t.nb x.bc) := cell_of_row _ _ 1 _ _ _ hBY
    have HOY : Hid (Y.ownsRow w5.heap.size 29 2 (.slice ra9 (t.nb + 1) rc9) (t.nb + 1) (flatR t.b (t.nb + 1))) := by unfold Hid; rw [flatR_succ, HBB.out]; exact hown
    have HBW := Lib.hid hbY
    have hYS := HCK.out Y hbY
    clear hown hgr hlt hbY hBY
    refine hK.out _ _ hYS (fun hS => ?_)
    clear hK K
    try simp only [Act.put, putA, putZ, putS]
    refine tk [7, 8, 9] ?_
    repeat (refine tkH (oi := ⟨_, _, _, _, _, _⟩) (v := ?_) rfl (by kernel_rfl) (by rfl) (fun _ _ _ h => h) hS ?_ ?_; rotate_left; (· rintro W' ⟨z0, z1, z2⟩; go_simp; try with_reducible rfl); try simp only [Act.put, putA, putZ, putS])
    refine tk0 ?_
    refine wpAnyH_ready (rs := [10]) (by kernel_rfl) (by simp) ?_
    refine AllReadyH.cons (o := ⟨none, _, _, _, _, _⟩) rfl (fun K hK => ?_) AllReadyH.nil
    have hSY : (Y.setCell ⟨B, 1, none⟩ (.slice ra9 (t.nb + 1) rc9)).cell? ⟨w.heap.size, 1, none⟩ = some (.slice x.ba t.nb x.bc) ∧ (Y.setCell ⟨B, 1, none⟩ (.slice ra9 (t.nb + 1) rc9)).cell? ⟨w.heap.size + 1, 0, none⟩ = some (.int .i64 b0) ∧ (Y.setCell ⟨B, 1, none⟩ (.slice ra9 (t.nb + 1) rc9)).cell? ⟨w.heap.size + 1, 1, none⟩ = some (.int .i64 b1) := by
      obtain ⟨s0, s1, s2⟩ := hS
      refine ⟨?_, ?_, ?_⟩ <;> (rw [World.cell?_setCell_far] <;> first | assumption | (simp <;> omega))
    have HSY := Lib.hid hSY
    clear hSY
    go_simp
    refine hK.out _ _ HSY.out (fun hS => ?_)
    clear hK K fB cB
    (try simp only [Act.put])
    refine wpAnyH_done (by kernel_rfl) ?_ _
    go_wp2_with fail
    go_meet
    exact ⟨ra9, rc9, HST.out Y ra9 rc9 HBW.out HOY.out, HTB2.out Y HBW.out _⟩
  case rest =>
    obtain ⟨ra, rc, ⟨hst, hbw⟩, hTx⟩ := hcut
    have HSX := Lib.hid hst; have HBX := Lib.hid hbw; have HTX := Lib.hid hTx
    clear hst hbw HST HTB2 HCL HCK HA0 HA1 HA2 HA5 HC HBO hTx
    have hcT : ∀ X : World, X.heap[w.heap.size]? = some (.cells #[.slice x.ca t.nc x.cc, .slice x.ba t.nb x.bc, .slice x.ra t.nr x.rc, .slice x.na t.nn x.nc] 36 (0, 0)) → X.cell? ⟨w.heap.size, 0, none⟩ = some (.slice x.ca t.nc x.cc) ∧ X.cell? ⟨w.heap.size, 1, none⟩ = some (.slice x.ba t.nb x.bc) ∧ X.cell? ⟨w.heap.size, 2, none⟩ = some (.slice x.ra t.nr x.rc) ∧ X.cell? ⟨w.heap.size, 3, none⟩ = some (.slice x.na t.nn x.nc) := fun X h => cells4 h
    have HCT := Lib.hid hcT
    clear hcT
    obtain ⟨d0, d1, d2, d3⟩ := HCT.out _ HTX.out
    generalize ({ x with ba := ra, bc := rc } : WV) = y at *
    go_wp2_with (go_at_call 57; refine (HGR.out _ HBX.out).mono ?_; rintro _ w6 ⟨rfl, hb6⟩; have HS6 := Lib.hid (HSX.out.below hb6); have HB6 := Lib.hid (below_step HBX.out hb6); have HT6 : Hid (w6.heap[w.heap.size]? = some (.cells #[.slice x.ca t.nc x.cc, .slice x.ba t.nb x.bc, .slice x.ra t.nr x.rc, .slice x.na t.nn x.nc] 36 (0, 0))) := (hb6.block _ (Array.getElem?_eq_some_iff.1 HTX.out).1).trans HTX.out; clear hb6 d0 d1 d2 d3)
    clear HSX HBX HTX HGR HWB5 HTB5 HS5 HW5
    have HCL : Hid (∀ X, Fr (fun q => q = bm) w6 X → (X.cell? ⟨w.heap.size, 0, none⟩ = some (.slice x.ca t.nc x.cc) ∧ X.cell? ⟨w.heap.size, 1, none⟩ = some (.slice x.ba t.nb x.bc) ∧ X.cell? ⟨w.heap.size, 2, none⟩ = some (.slice x.ra t.nr x.rc) ∧ X.cell? ⟨w.heap.size, 3, none⟩ = some (.slice x.na t.nn x.nc)) ∧ Below w.heap.size w X) := fun X hX => ⟨HCT.out X ((hX.block _ (Array.getElem?_eq_some_iff.1 HT6.out).1 (by omega)).trans HT6.out), HB6.out.trans (hX.low HB6.out.size (fun q hq e => by omega))⟩
    have HSS : Hid (∀ X n, Fr (fun q => q = bm) w6 X → CM X (t.more.memo off0) bm n → St X B bm n y t.more off0) := fun X n hX hc => ⟨(hX.block _ (Array.getElem?_eq_some_iff.1 HS6.out.wb).1 HS6.out.ne).trans HS6.out.wb, HS6.out.wl.fr hX HS6.out.cm.mp, hc⟩
    have hbm6 : bm < w6.heap.size := HS6.out.cm.lt
    go_loopg [9, 40] t.ng (fun f v i wr => ∃ k : Nat, f + k = t.ng ∧ i = .int .i64 k ∧ CM wr (t.more.memo off0) bm (340 + k * 340) ∧ Fr (fun q => q = bm) w6 wr ∧ wr.ownsRow w6.heap.size 29 2 v k (flatR (t.before off0 t.nc) k) ∧ ∀ q, q < k → emptyR (t.before off0 t.nc q) = false)
    case atStart => exact ⟨0, rfl, rfl, by rw [Nat.zero_mul]; exact HS6.out.cm, Fr.refl _ _, World.ownsRow_nil _ _ _ _, fun q h => absurd h (Nat.not_lt_zero _)⟩
    case round =>
      clear HS6 HB6 HT6 HCT
      obtain ⟨k, hfk, rfl, hcm, hfr, how, hall⟩ := hrel
      have HST := Lib.hid (HSS.out wr _ hfr hcm); have HFR := Lib.hid hfr; have HOW := Lib.hid how; have HALL := Lib.hid hall; have HFK := Lib.hid hfk
      obtain ⟨va, vc, rfl⟩ := own_slice' how
      have hkn : k ≤ t.ng := by omega
      have hz6 := hfr.size
      clear hcm hfr how hall hfk
      obtain ⟨⟨d0, d1, d2, d3⟩, -⟩ := HCL.out _ HFR.out
      by_cases hlt : k < t.ng
      · have HAR := Lib.hid (HARR.out B bm y k (340 + k * 340) wr hlt (by omega) HST.out)
        obtain ⟨p, q, HPQ⟩ : ∃ p q, Hid (t.before off0 t.nc k = (p, q)) := ⟨_, _, rfl⟩
        rw [HPQ.out] at HAR
        unfold GivesR at HAR
        simp only at HAR
        have HWS : Hid (∀ X, wr.ownsRow w6.heap.size 29 2 (.slice va k vc) k (flatR (t.before off0 t.nc) k) → Fr (fun q => q = bm) wr X → X.ownsRow w6.heap.size 29 2 (.slice va k vc) k (flatR (t.before off0 t.nc) k)) := fun X ho hX => own_fr ho hX (fun g cur _ _ hg e => by subst e; obtain ⟨es, kk, hm⟩ := HST.out.cm.mp; rw [hm] at hg; cases hg)
        cases hem : emptyR (p, q)
        · go_wp2_with (first | (go_at_call 73; refine HAR.out.mono ?_; rintro _ w7 ⟨rfl, hs7, hf7⟩; have HS7 := Lib.hid hs7; have HF7 := Lib.hid hf7; clear hs7 hf7) | (go_at_call 74; refine (empty_any _ _ _).mono ?_; rw [hem]; rintro _ w8 ⟨rfl, hb8⟩; have HN8 := Lib.hid ((hb8.block w7.heap.size (by simp)).trans (heap_alloc_new w7 (.cells #[.int .i64 p, .int .i64 q] 29))); have HB8 := Lib.hid (below_step (below_alloc w7 _) hb8); have n0 := cell_of_row _ _ 0 _ _ _ HN8.out; have n1 := cell_of_row _ _ 1 _ _ _ HN8.out; clear hb8; have HF8 : Hid (Fr (fun q => q = bm) wr w8) := HF7.out.trans (Fr.below HB8.out _)) | (at_builtin; refine wpList_append_src _ rfl (.tmp 52) (.tmp 54) 34 rfl w6.heap.size 29 i0 (.agg #[.int .i64 0, .int .i64 0]) 2 16 Try.underlying34 hi0 hz0 hz1 hz2 rfl (by decide) (.slice va k vc) k (flatR (t.before off0 t.nc) k) rfl ((HWS.out w8 HOW.out HF8.out).alloc (.cells #[.int .i64 p, .int .i64 q] 29)) (some ⟨w8.heap.size, 0, none⟩) 1 1 [.int .i64 p, .int .i64 q] rfl ⟨rfl, fun j u hu => ⟨_, rfl, World.news_of_block (heap_alloc_new w8 (.cells #[.int .i64 p, .int .i64 q] 29)) j u hu⟩⟩ (by simp [Value.oneCell']) ?a1 ?a2 ?a3 ?_))
          case a1 => unfold maxLen; omega
          case a2 => omega
          case a3 => have := HF8.out.size; simp; omega
          intro v1 w9 hown hgr hlt2
          obtain ⟨va1, vc1, rfl⟩ := own_slice' hown
          have hlow : ∀ q, (Value.slice va k vc).ownBlock = some q → w6.heap.size ≤ q := fun q hq => (HOW.out.lt q hq).1
          have HF9 : Hid (Fr (fun q => q = bm) w6 w9) := by
            have h1 : Fr (fun q => q = bm) w6 (w8.alloc (.cells #[.int .i64 p, .int .i64 q] 29)) := (HFR.out.trans HF8.out).trans (Fr.below (below_alloc _ _) _)
            refine ⟨hgr.os.trans h1.os, hgr.tape.trans h1.tape, hgr.output.trans h1.output, Nat.le_trans h1.size hgr.size, fun b hb hne => ?_⟩
            exact (hgr.block b (Nat.lt_of_lt_of_le hb h1.size) (fun e => by have := hlow b e.symm; omega)).trans (h1.block b hb hne)
          have HC9 : Hid (CM w9 (t.more.memo off0) bm (340 + k * 340 + 340)) := ((HS7.out.cm.below HB8.out).below (below_alloc _ _)).kept hgr (fun e => by have := hlow bm e.symm; omega)
          have HO9 := Lib.hid hown
          clear hown hgr hlt2 hlow
          go_wp2_with fail
          go_roundg (gk - 1)
          case measure => have := HFK.out; omega
          case rel => exact ⟨k + 1, by have := HFK.out; omega, by go_num, by rw [Nat.succ_mul]; exact HC9.out, HF9.out, by rw [flatR_succ, HPQ.out]; exact HO9.out, fun q hq => by rcases Nat.lt_succ_iff_lt_or_eq.1 hq with h | rfl; exact HALL.out q h; rw [HPQ.out]; exact hem⟩
        · go_wp2_with (first | (go_at_call 73; refine HAR.out.mono ?_; rintro _ w7 ⟨rfl, hs7, hf7⟩; have HS7 := Lib.hid hs7; have HF7 := Lib.hid hf7; clear hs7 hf7) | (go_at_call 74; refine (empty_any _ _ _).mono ?_; rw [hem]; rintro _ w8 ⟨rfl, hb8⟩; have HB8 := Lib.hid (below_step (below_alloc w7 _) hb8); clear hb8))
          go_ret2
          exact ⟨.inl ⟨⟨k, hlt, by rw [HPQ.out]; exact hem⟩, rfl⟩, (HCL.out w8 ((HFR.out.trans HF7.out).trans (Fr.below HB8.out _))).2⟩
      · obtain rfl : k = t.ng := by omega
        go_wp2_with fail
        go_ret2
        exact ⟨.inr ⟨HALL.out, _, rfl, RsAt.own HOW.out⟩, (HCL.out wr HFR.out).2⟩
end Go.Proofs.Ytjaoflfophcibaa

namespace Go.Proofs.Ytjaoflfophcibaa
open Go.RowKit Go.Shelf

theorem wp_box_row {P : Program} {o : Oper} {a : Act} {w : World} {K : Act → World → Prop} {Q : Exit → Act → World → Prop} (ty : TypeId) (x : Operand) (ho : o.op = .box ty x) (cs : Array Value) (hx : a.eval x = .agg cs)
    (h : K (a.put o.dst (.pointer (some ⟨w.heap.size, 0, none⟩))) (w.alloc (.cells cs ty))) : o.wp P a w K Q := by
  unfold Oper.wp execOp
  simp only [ho, hx, Instr.box, newVar, newRow, Value.cells, Sem.run_bind, Sem.run_pure]
  exact h
theorem wpList_box_row {P : Program} {ops : Array Oper} {rest : List Oper} {o : Oper} {a : Act} {w : World} {Q : Exit → Act → World → Prop} (hgd : o.guard = none) (ty : TypeId) (x : Operand) (ho : o.op = .box ty x) (cs : Array Value) (hx : a.eval x = .agg cs)
    (h : wpList P ops Q rest (a.put o.dst (.pointer (some ⟨w.heap.size, 0, none⟩))) (w.alloc (.cells cs ty))) : wpList P ops Q (o :: rest) a w :=
  wpList_plain hgd fun _ hK => wp_box_row ty x ho cs hx (hK _ _ h)
theorem take_set_snoc (l : List Value) (n : Nat) (v : Value) (h : n < l.length) : (l.set n v).take (n + 1) = l.take n ++ [v] := by
  rw [List.take_succ_eq_append_getElem (by simpa using h)]
  simp [List.take_set_of_le]
/-- A slice of cells of one's own. -/
def CL (W : World) (v : Value) (l : List (Int × Int)) : Prop := W.ownsRow 0 39 2 v l.length (flat l)
theorem CL.nil (W : World) : CL W (.slice none 0 0) [] := World.ownsRow_nil _ _ _ _
theorem CL.form {W : World} {v : Value} {l : List (Int × Int)} (h : CL W v l) : (v = .slice none 0 0 ∧ l = []) ∨ ∃ g cap, v = .slice (some ⟨g, 0, none⟩) l.length cap ∧ g < W.heap.size := by
  rcases h.2 with ⟨rfl, h0⟩ | ⟨g, cap, cur, rfl, _, hc, _⟩
  · exact .inl ⟨rfl, List.eq_nil_of_length_eq_zero h0⟩
  · exact .inr ⟨g, cap, rfl, (Array.getElem?_eq_some_iff.1 hc).1⟩
theorem CL.slice {W : World} {v : Value} {l : List (Int × Int)} (h : CL W v l) : ∃ a c, v = .slice a l.length c := own_slice' h
theorem CL.below {W W' : World} {v : Value} {l : List (Int × Int)} (h : CL W v l) (hb : Below W.heap.size W W') : CL W' v l := own_fr h (Fr.below hb (fun _ => False)) (fun _ _ _ _ _ h => h)
theorem CL.src {W : World} {g cap : Nat} {l : List (Int × Int)} (h : CL W (.slice (some ⟨g, 0, none⟩) l.length cap) l) : Src W (some ⟨g, 0, none⟩) 2 l.length (flat l) := by
  refine ⟨flat_length l, fun j u hu => ⟨_, rfl, ?_⟩⟩
  have hj := (List.getElem?_eq_some_iff.1 hu).1
  rw [flat_length] at hj
  rw [addr_add, Nat.zero_add, h.cellAt j hj]; exact hu
theorem flat_snoc (l : List (Int × Int)) (i : Int × Int) : flat (l ++ [i]) = flat l ++ [.int .i64 i.1, .int .i64 i.2] := by rw [flat_append]; rfl
set_option maxRecDepth 100000 in
set_option maxHeartbeats 2000000 in
theorem clone_cells (v : Value) (l : List (Int × Int)) (w : World) (hn : l.length ≤ 1000) (h : CL w v l) :
    Calls Try.prog 78 #[v] w fun e w' => ∃ v', e = .returned v' ∧ CL w' v' l ∧ Below w.heap.size w w' := by
  rcases h.form with ⟨rfl, rfl⟩ | ⟨b, cap, rfl, hb⟩
  · have hnil : ∀ W : World, (binOp .eql 63 (.slice none 0 0) (.slice none 0 0)).run Try.prog W = .ok (.bool true) W := fun W => Lib.run_eql_slice_nil W 63 39 none 0 0 0 0 Try.underlying63
    clear h
    go_enter Try.func78, Try.ntmps78
    go_wp2
    go_ret
    exact ⟨_, rfl, CL.nil _, Below.refl _ _⟩
  · obtain ⟨i0, hi0, hz0, hz1, hz2⟩ := info_parts Try.infoCell
    have HSRC : Hid (Src (w.alloc (.cells #[] 39)) (some ⟨b, 0, none⟩) 2 l.length (flat l)) := (h.below (below_alloc _ _)).src
    clear h
    have hnil : ∀ W : World, (binOp .eql 63 (.slice (some ⟨b, 0, none⟩) l.length cap) (.slice none 0 0)).run Try.prog W = .ok (.bool false) W := fun W => Lib.run_eql_slice_nil W 63 39 (some ⟨b, 0, none⟩) l.length cap 0 0 Try.underlying63
    go_enter Try.func78, Try.ntmps78
    go_wp2_with (at_builtin; refine wpList_append_src _ rfl (.tmp 5) (.tmp 6) 63 rfl w.heap.size 39 i0 (.agg #[.int .i64 0, .int .i64 0]) 2 16 Try.underlying63 hi0 hz0 hz1 hz2 rfl (by decide) (.slice (some ⟨w.heap.size, 0, none⟩) 0 0) 0 [] rfl (own_empty w 39 2 w.heap.size (Nat.le_refl _)) (some ⟨b, 0, none⟩) l.length cap (flat l) rfl HSRC.out (flat_one _) ?a1 ?a2 ?a3 ?_)
    case a1 => unfold maxLen; omega
    case a2 => omega
    case a3 => simp
    intro v1 w1 hown hgr hlt
    have HB : Hid (Below w.heap.size w w1) := (below_alloc w _).grown hgr (by simp) (fun k hk => by cases hk; exact Nat.le_refl _)
    have HO : Hid (CL w1 v1 l) := own_mono hown (Nat.zero_le _)
    clear hown hgr hlt
    go_wp2
    go_ret
    exact ⟨_, rfl, HO.out, HB.out⟩
/-- 'v' is v with one more cell, in w1; while v' is kept, so is v. -/
def AppC (X w1 : World) (v : Value) (out : List (Int × Int)) (i : Int × Int) (v' : Value) : Prop :=
  CL w1 v' (out ++ [i]) ∧ Fr (fun q => v.ownBlock = some q) X w1 ∧ (∃ g cap, v' = .slice (some ⟨g, 0, none⟩) (out.length + 1) cap) ∧ (v'.ownBlock = v.ownBlock ∨ ∀ q, v'.ownBlock = some q → X.heap.size ≤ q) ∧
  ∀ (W' : World) (Bd : Nat), (∀ c, w1.heap[Bd]? ≠ some (Obj.cells c 39 (0, 0))) → CL W' v' (out ++ [i]) → Fr (fun q => q = Bd ∨ v'.ownBlock = some q) w1 W' → CL W' v out
theorem appC_room {X : World} {g cap : Nat} {out : List (Int × Int)} {i : Int × Int} (h : CL X (.slice (some ⟨g, 0, none⟩) out.length cap) out) (hr : out.length + 1 ≤ cap) :
    AppC X ((X.setCell ⟨g, out.length * 2, none⟩ (.int .i64 i.1)).setCell ⟨g, out.length * 2 + 1, none⟩ (.int .i64 i.2)) (.slice (some ⟨g, 0, none⟩) out.length cap) out i (.slice (some ⟨g, 0, none⟩) (out.length + 1) cap) := by
  rcases h.2 with ⟨h, _⟩ | ⟨g', cap', cur, e, _, hc, hle, hm, hs, ht⟩
  · cases h
  · cases e
    have hblk : ((X.setCell ⟨g, out.length * 2, none⟩ (.int .i64 i.1)).setCell ⟨g, out.length * 2 + 1, none⟩ (.int .i64 i.2)).heap[g]? = some (.cells ((cur.setIfInBounds (out.length * 2) (.int .i64 i.1)).setIfInBounds (out.length * 2 + 1) (.int .i64 i.2)) 39 (0, 0)) := by
      simp [World.setCell, Array.getElem?_modify, hc]
    have hlen : cur.toList.length = cap * 2 := by simpa using hs
    refine ⟨⟨by rw [flat_length], .inr ⟨g, cap, _, by simp, Nat.zero_le _, hblk, by simp; omega, hm, by simpa using hs, ?_⟩⟩, ((Fr.set X g _ _).trans (Fr.set _ g _ _)).mono (fun q _ e => by rw [e]; rfl), ⟨g, cap, rfl⟩, .inl rfl, ?_⟩
    · rw [flat_snoc, ← ht]
      simp only [List.length_append, List.length_cons, List.length_nil, Array.toList_setIfInBounds]
      rw [show (out.length + (0 + 1)) * 2 = out.length * 2 + 1 + 1 from by omega, take_set_snoc _ _ _ (by simp; omega), take_set_snoc _ _ _ (by omega), List.append_assoc]; rfl
    · intro W' Bd _ hW _
      rcases hW.2 with ⟨h, _⟩ | ⟨g2, cap2, cur2, e2, _, hc2, hle2, hm2, hs2, ht2⟩
      · cases h
      · rw [show (out ++ [i]).length = out.length + 1 from by simp] at e2
        cases e2
        refine ⟨flat_length _, .inr ⟨g, cap, cur2, rfl, Nat.zero_le _, hc2, by omega, hm2, hs2, ?_⟩⟩
        rw [flat_snoc] at ht2
        have := congrArg (List.take (out.length * 2)) ht2
        simp only [List.length_append, List.length_cons, List.length_nil] at this
        rw [List.take_take, Nat.min_eq_left (by omega), List.take_append_of_le_length (by rw [flat_length]; exact Nat.le_refl _), show List.take (out.length * 2) (flat out) = flat out from List.take_of_length_le (by rw [flat_length]; exact Nat.le_refl _)] at this
        exact this
theorem appC_grow {X w1 : World} {v v' : Value} {out : List (Int × Int)} {i : Int × Int} (h : CL X v out) (h1 : w1.ownsRow X.heap.size 39 2 v' (out.length + 1) (flat out ++ [.int .i64 i.1, .int .i64 i.2])) (hg : X.grownBy w1 none) : AppC X w1 v out i v' := by
  obtain ⟨g, cap, rfl, hgb, hgs⟩ := h1.form (by omega)
  have f := (Fr.grown hg).mono (ex' := fun _ => False) (fun _ _ e => by cases e)
  refine ⟨by unfold CL; rw [flat_snoc]; simpa using own_mono h1 (Nat.zero_le _), f.mono (fun _ _ h => h.elim), ⟨g, cap, rfl⟩, .inr (fun q hq => by cases hq; exact hgb), fun W' Bd hBd _ hf => ?_⟩
  refine own_fr (own_fr h f (fun _ _ _ _ _ h => h)) hf ?_
  rintro q cur hq _ hc (rfl | e)
  · exact hBd _ hc
  · cases e
    rcases h.2 with ⟨rfl, _⟩ | ⟨g2, cap2, cur2, rfl, _, hc2, _⟩
    · cases hq
    · cases hq
      have := (Array.getElem?_eq_some_iff.1 hc2).1
      first | omega | (simp at hgb; omega)
theorem step_append_cl {ops : Array Oper} {o : Oper} {a : Act} {X : World} {K : Act → World → Prop} {Q : Exit → Act → World → Prop} {E : Prop} (hgd : o.guard = none) (s x : Operand)
    (ho : o.op = .call { callee := .builtin .append, args := #[s, x], argTypes := #[63, 63] }) (v : Value) (out : List (Int × Int)) (i : Int × Int) (hs : a.eval s = v) (hil : CL X v out) (hlen : out.length ≤ 1000)
    (ad : Addr) (hx : a.eval x = .slice (some ad) 1 1) (hc : ∀ j u, [Value.int .i64 i.1, Value.int .i64 i.2][j]? = some u → X.cell? (ad.add j) = some u)
    (h : ∀ v' w', AppC X w' v out i v' → K (a.put o.dst v') w') :
    if Region.wanted o (yielded ops a.tmps) = true then Oper.wp Try.prog o a X K Q else E := by
  obtain ⟨i0, hi0, hz0, hz1, hz2⟩ := info_parts Try.infoCell
  have hone : ∀ u ∈ [Value.int .i64 i.1, Value.int .i64 i.2], u.oneCell' = true := by simp [Value.oneCell']
  rcases hil.form with ⟨rfl, rfl⟩ | ⟨g, cap, rfl, hg⟩
  · exact step_append_grows hgd s x 63 ho 39 i0 (.agg #[.int .i64 0, .int .i64 0]) 2 16 Try.underlying63 hi0 hz0 hz1 hz2 rfl (by decide) none 0 0 [] hs (fun _ => ⟨rfl, rfl⟩) rfl (fun b e => by cases e) ad 1 1 [.int .i64 i.1, .int .i64 i.2] hx rfl hc hone (by omega) (by unfold maxLen; omega) (by omega) (fun v' w' h1 h2 => h v' w' (appC_grow hil h1 h2))
  · by_cases hr : out.length + 1 ≤ cap
    · refine step_append_room hgd s x 63 ho 39 i0 2 Try.underlying63 hi0 hz1 g 0 out.length cap hs ad 1 1 [.int .i64 i.1, .int .i64 i.2] hx rfl hc hone hr ?_ ?_
      · intro j hj
        rcases hil.2 with ⟨h, _⟩ | ⟨g', cap', cur, e, _, hcb, hle, hm, hs', ht⟩
        · cases h
        · cases e
          refine ⟨?_, frozen_of_row X g _ _ _ hcb⟩
          rw [cell_of_row X g _ _ _ _ hcb]
          simp at hj ⊢; omega
      · have := h _ _ (appC_room hil hr)
        simpa [World.setCells] using this
    · refine step_append_grows hgd s x 63 ho 39 i0 (.agg #[.int .i64 0, .int .i64 0]) 2 16 Try.underlying63 hi0 hz0 hz1 hz2 rfl (by decide) (some ⟨g, 0, none⟩) out.length cap (flat out) hs (fun e => by cases e) (flat_length _) ?_ ad 1 1 [.int .i64 i.1, .int .i64 i.2] hx rfl hc hone (by omega) (by unfold maxLen; omega) (by omega) (fun v' w' h1 h2 => h v' w' (appC_grow hil h1 h2))
      intro b e j u hu
      cases e
      obtain ⟨_, e2, h2⟩ := hil.src.2 j u hu
      cases e2; exact h2
end Go.Proofs.Ytjaoflfophcibaa

namespace Go.Proofs.Ytjaoflfophcibaa
open Go.RowKit Go.Shelf

/-- The first k cells of a table. -/
def cellsN (ng k : Nat) : List (Int × Int) := (List.range k).map fun j => (((j / ng : Nat) : Int), ((j % ng : Nat) : Int))
theorem cellsN_succ (ng k : Nat) : cellsN ng (k + 1) = cellsN ng k ++ [(((k / ng : Nat) : Int), ((k % ng : Nat) : Int))] := by simp [cellsN, List.range_succ]
theorem cellsN_length (ng k : Nat) : (cellsN ng k).length = k := by simp [cellsN]
/-- What lies in the world in a round of AppendSeq. -/
structure CI (Wb : World) (Bl ng k : Nat) (W : World) : Prop where
  fr : Fr (fun q => q = Bl) Wb W
  row : ∃ v, W.heap[Bl]? = some (.cells #[v] 63 (0, 0)) ∧ W.ownsRow Wb.heap.size 39 2 v k (flat (cellsN ng k))
theorem CI.own (Wb : World) (Bl ng : Nat) : OwnFrom Wb.heap.size (CI Wb Bl ng) := by
  rintro k W X row ⟨h1, v, h2, h3⟩ hg hr
  have hne : ∀ q c T, W.heap[q]? = some (.cells c T (0, 0)) → ¬ row = some q := fun q c T hq e => by
    obtain ⟨_, o, ho, hc⟩ := hr q e; rw [hq] at ho; cases ho; cases hc
  refine ⟨⟨hg.os.trans h1.os, hg.tape.trans h1.tape, hg.output.trans h1.output, Nat.le_trans h1.size hg.size, fun q hq he => ?_⟩, v, (hg.block _ (Array.getElem?_eq_some_iff.1 h2).1 (fun e => hne _ _ _ h2 e.symm)).trans h2, own_fr h3 (Fr.grown hg) (fun g cur _ _ hc e => hne g _ _ hc e)⟩
  exact (hg.block q (Nat.lt_of_lt_of_le hq h1.size) (fun e => by have := (hr q e.symm).1; omega)).trans (h1.block q hq he)
theorem CI.step {Wb W X Y : World} {Bl ng k : Nat} {v v1 : Value} (hBl : Bl < Wb.heap.size) (hf : Fr (fun q => q = Bl) Wb W) (h2 : W.heap[Bl]? = some (.cells #[v] 63 (0, 0))) (h3 : W.ownsRow Wb.heap.size 39 2 v k (flat (cellsN ng k)))
    (hX : Below W.heap.size W X) (ho : Y.ownsRow Wb.heap.size 39 2 v1 (k + 1) (flat (cellsN ng (k + 1)))) (hg : X.grownBy Y v.ownBlock) :
    Y.frozen? ⟨Bl, 0, none⟩ = false ∧ Y.cell? ⟨Bl, 0, none⟩ = some v ∧ KeepsFrom Wb.heap.size W (Y.setCell ⟨Bl, 0, none⟩ v1) ∧ Kx Wb.heap.size (fun q => q = Bl) W (Y.setCell ⟨Bl, 0, none⟩ v1) ∧ CI Wb Bl ng (k + 1) (Y.setCell ⟨Bl, 0, none⟩ v1) := by
  have hv : ∀ q, v.ownBlock = some q → Wb.heap.size ≤ q ∧ ∃ cur, W.heap[q]? = some (.cells cur 39 (0, 0)) := fun q hq => by
    rcases h3.2 with ⟨e, _⟩ | ⟨g, cap, cur, e, hb, hg, _⟩
    · rw [e] at hq; cases hq
    · rw [e] at hq; cases hq; exact ⟨hb, cur, hg⟩
  have hBW := (Array.getElem?_eq_some_iff.1 h2).1
  have hYB : Y.heap[Bl]? = some (.cells #[v] 63 (0, 0)) := (hg.block Bl (by have := hX.size; omega) (fun e => by have := (hv _ e.symm).1; omega)).trans ((hX.block Bl hBW).trans h2)
  have hF : Fr (fun q => q = Bl ∨ v.ownBlock = some q) W (Y.setCell ⟨Bl, 0, none⟩ v1) := ((Fr.below hX _).trans ((Fr.grown hg).mono (fun _ _ h => .inr h))).trans ((Fr.set Y Bl 0 v1).mono (fun _ _ h => .inl h))
  refine ⟨frozen_of_row _ _ _ _ _ hYB, cell_of_row _ _ 0 _ _ _ hYB, ⟨hF.size, fun b o hb ho' hc => ?_⟩, Kx.fr hf.size hF (fun b hb h => h.elim id (fun h => absurd (hv b h).1 (by omega))), ?_, v1, ?_, own_fr ho (Fr.set Y Bl 0 v1) (fun g cur _ hb _ e => by omega)⟩
  · rw [hF.block b (Array.getElem?_eq_some_iff.1 ho').1]
    · exact ho'
    · rintro (e | e)
      · omega
      · obtain ⟨_, cur, h1⟩ := hv b e
        rw [ho'] at h1; cases h1; cases hc
  · refine ⟨hF.os.trans hf.os, hF.tape.trans hf.tape, hF.output.trans hf.output, Nat.le_trans hf.size hF.size, fun b hb he => ?_⟩
    rw [hF.block b (Nat.lt_of_lt_of_le hb hf.size) (fun h => h.elim he (fun h => absurd (hv b h).1 (by omega)))]
    exact hf.block b hb he
  · simp [World.setCell, Array.getElem?_modify, hYB]
attribute [local go_sem] Oper.semAt_some
attribute [local go_sem ↓] Go.wp_at_zero Go.wp_at_succ
set_option maxRecDepth 100000 in
set_option maxHeartbeats 4000000 in
theorem appendSeq_cells (Bt : Nat) (x : WV) (t : Tb) (hs : t.small) (nc4 : t.nc ≤ 4) (ng4 : t.ng ≤ 4) (w : World) (hT : TBox w Bt x t) :
    Calls Try.prog 105 #[.slice none 0 0, .func (.func 106) #[] #[.pointer (some ⟨Bt, 0, none⟩)]] w fun e w' => ∃ v, e = .returned v ∧ CL w' v (cellsN t.ng (t.nc * t.ng)) ∧ Below w.heap.size w w' := by
  obtain ⟨i0, hi0, hz0, hz1, hz2⟩ := info_parts Try.infoCell
  have HT := Lib.hid hT; have HS := Lib.hid hs
  have hBt := (Array.getElem?_eq_some_iff.1 hT.1).1
  clear hT hs
  refine callsIn_wide.1 (callsIn_of_wp_marks (n := 0) Try.func105 rfl trivial ?_ rfl)
  simp only [Try.ntmps105, List.size_toArray, List.length_cons, List.length_nil, Nat.reduceAdd, Nat.reduceSub, Array.replicate_succ, Array.replicate_zero, List.push_toArray, List.append_toArray, List.nil_append, List.cons_append]
  refine wpIn_wide.2 ?_
  go_wp2
  have hbO := below_alloc w (.cells #[.slice none 0 0] 63)
  have hnO := heap_alloc_new w (.cells #[.slice none 0 0] 63)
  have hzO := World.size_alloc w (.cells #[.slice none 0 0] 63)
  generalize w.alloc (.cells #[.slice none 0 0] 63) = Wb at *
  obtain ⟨hzA, hzB⟩ : w.heap.size + 1 ≤ Wb.heap.size ∧ Wb.heap.size ≤ w.heap.size + 1 := by omega
  clear hzO
  have HBO := Lib.hid hbO; have HNO := Lib.hid hnO
  have hTB : ∀ X, Kx Wb.heap.size (fun q => q = w.heap.size) Wb X → TBox X Bt x t := fun X hX => by
    refine ⟨(hX.block _ (by omega) (by omega)).trans ((HBO.out.block _ hBt).trans HT.out.1), HT.out.2.blocks (Nat.le_trans HBO.out.size hX.size) (fun b hb => ?_)⟩
    rw [hX.block b (by omega) (by omega)]
    exact HBO.out.block b hb
  have HTB := Lib.hid hTB
  clear hTB hbO hnO
  have hn16 : t.nc * t.ng ≤ 16 := Nat.le_trans (Nat.mul_le_mul nc4 ng4) (by decide)
  refine wpIn_wide.1 (listed_range (n := 0) (gf := 106) (lb := #[.pointer (some ⟨Bt, 0, none⟩)]) rfl (enters_of Try.func106 (by kernel_rfl) rfl)
    (cells_listed Bt Wb.heap.size (fun q => q = w.heap.size) x t HS.out nc4 ng4 Wb (Nat.le_refl _) HTB.out) (fun _ => rfl) Kx.trans (fun W l o' h => Kx.put W l o' h)
    (CI Wb w.heap.size t.ng) (CI.own Wb w.heap.size t.ng) ⟨Fr.refl _ _, _, HNO.out, World.ownsRow_nil _ _ _ _⟩
    (fun k a' W' => CI Wb w.heap.size t.ng k W' ∧ ∃ Bx, W'.heap[Bx]? = some (.cells #[.int .i64 ((k / t.ng : Nat) : Int), .int .i64 ((k % t.ng : Nat) : Int)] 39 (0, 0)) ∧ Wb.heap.size ≤ Bx ∧ a' = { tmps := #[.slice none 0 0, .func (.func 106) #[] #[.pointer (some ⟨Bt, 0, none⟩)], .pointer (some ⟨w.heap.size, 0, none⟩), undef, .slice none 0 0, .pointer (some ⟨Bx, 0, none⟩), .func (.func 106) #[] #[.pointer (some ⟨Bt, 0, none⟩)], .agg #[.int .i64 ((k / t.ng : Nat) : Int), .int .i64 ((k % t.ng : Nat) : Int)], undef, undef, undef, undef, undef], defers := [] })
    ?hA ?assign ?body ?done)
  case hA =>
    rintro k a' s X Y row ⟨hs, Bx, hbx, hle, rfl⟩ hg hr
    refine ⟨CI.own Wb w.heap.size t.ng _ X Y row hs hg hr, Bx, ?_, hle, rfl⟩
    rw [hg.block _ (Array.getElem?_eq_some_iff.1 hbx).1 (fun e => by obtain ⟨_, o, ho, hc⟩ := hr _ e.symm; rw [hbx] at ho; cases ho; cases hc)]
    exact hbx
  case assign =>
    rintro l1 k W1 hy hlen
    have HY := Lib.hid hy
    have hzz := hy.fr.size
    clear hy
    simp only [encC]
    gi_wp2
    exact ⟨Kx.below hzz (below_alloc _ _), (KeepsOthers.alloc _ _).from _, OwnFrom.alloc (CI.own Wb w.heap.size t.ng) _ HY.out, W1.heap.size, heap_alloc_new _ _, hzz, rfl⟩
  case body =>
    rintro l1 k a' W1 hl ⟨hbi, Bx, hbx, hle, rfl⟩ hlen
    obtain ⟨hf1, v, hv1, hr1⟩ := hbi
    obtain ⟨va, vc, rfl⟩ := own_slice' hr1
    have hW1 := (Array.getElem?_eq_some_iff.1 hv1).1
    have hfz := hf1.size
    have HCS := Lib.hid (cellsN_succ t.ng k)
    have HR1 := Lib.hid hr1
    have HSTEP : Hid (∀ X Y v1, Below W1.heap.size W1 X → Y.ownsRow Wb.heap.size 39 2 v1 (k + 1) (flat (cellsN t.ng (k + 1))) → X.grownBy Y (Value.slice va k vc).ownBlock → Y.frozen? ⟨w.heap.size, 0, none⟩ = false ∧ Y.cell? ⟨w.heap.size, 0, none⟩ = some (.slice va k vc) ∧ KeepsFrom Wb.heap.size W1 (Y.setCell ⟨w.heap.size, 0, none⟩ v1) ∧ Kx Wb.heap.size (fun q => q = w.heap.size) W1 (Y.setCell ⟨w.heap.size, 0, none⟩ v1) ∧ CI Wb w.heap.size t.ng (k + 1) (Y.setCell ⟨w.heap.size, 0, none⟩ v1)) := fun X Y v1 hX ho hg => CI.step (by omega) hf1 hv1 hr1 hX ho hg
    have c0 : W1.cell? ⟨w.heap.size, 0, none⟩ = some (.slice va k vc) := cell_of_row _ _ 0 _ _ _ hv1
    have x0 : W1.cell? ⟨Bx, 0, none⟩ = some (.int .i64 ((k / t.ng : Nat) : Int)) := cell_of_row _ _ 0 _ _ _ hbx
    have x1 : W1.cell? ⟨Bx, 1, none⟩ = some (.int .i64 ((k % t.ng : Nat) : Int)) := cell_of_row _ _ 1 _ _ _ hbx
    clear hf1 hv1 hr1 hbx
    generalize ((k / t.ng : Nat) : Int) = ca at *
    generalize ((k % t.ng : Nat) : Int) = cb at *
    gi_wp2_with (gi_at_builtin; refine wpListIn_append_own _ rfl (.tmp 8) (.tmp 10) 63 rfl Wb.heap.size 39 i0 (.agg #[.int .i64 0, .int .i64 0]) 2 16 Try.underlying63 hi0 hz0 hz1 hz2 rfl (by decide) (.slice va k vc) k (flat (cellsN t.ng k)) rfl (HR1.out.alloc (.cells #[.int .i64 ca, .int .i64 cb] 39)) ⟨W1.heap.size, 0, none⟩ 1 1 (flat [(ca, cb)]) rfl rfl (fun j u hu => World.news_of_block (heap_alloc_new W1 (.cells #[.int .i64 ca, .int .i64 cb] 39)) j u hu) (flat_one _) ?a1 ?a2 ?a3 ?_)
    case a1 => unfold maxLen; omega
    case a2 => omega
    case a3 => simp; omega
    intro v1 W2 hown hgr _
    obtain ⟨va1, vc1, rfl⟩ := own_slice' hown
    have hF := HSTEP.out _ W2 _ (below_alloc W1 (.cells #[.int .i64 ca, .int .i64 cb] 39)) (by rw [HCS.out, flat_append]; exact hown) hgr
    have HF := Lib.hid hF.2.2
    have hf0 := hF.1
    have hc0 := hF.2.1
    clear hF hown hgr c0 x0 x1
    gi_wp2
    exact HF.out
  case done =>
    rintro D W5 hD ⟨hf5, v, hv5, hr5⟩ hK
    obtain ⟨va, vc, rfl⟩ := own_slice' hr5
    have z0 : W5.cell? ⟨w.heap.size, 0, none⟩ = some (.slice va (t.nc * t.ng) vc) := cell_of_row _ _ 0 _ _ _ hv5
    have HK := Lib.hid hK; have HR5 := Lib.hid hr5; have HF5 := Lib.hid hf5
    clear hK hf5 hr5 hv5
    go_wp2
    refine ⟨by simp, .inl ⟨_, _, rfl, run_takeDeferred HK.out, ?_⟩⟩
    have hfr := HF5.out.size
    have hbs := HBO.out.size
    refine ⟨.slice va (t.nc * t.ng) vc, by simp [results, Try.results105, go_sem], _, rfl, ?_, ?_⟩
    · unfold CL; rw [cellsN_length]
      exact own_mono (own_fr HR5.out (Fr.put W5 D _) (fun g cur _ _ hg e => by subst e; rw [HK.out] at hg; cases hg)) (Nat.zero_le _)
    · exact (HBO.out.trans (HF5.out.low hbs (fun q hq e => by omega))).trans ((Fr.put W5 D _).low (by omega) (fun q hq e => by omega))
theorem collect_cells (Bt : Nat) (x : WV) (t : Tb) (hs : t.small) (nc4 : t.nc ≤ 4) (ng4 : t.ng ≤ 4) (w : World) (hT : TBox w Bt x t) :
    Calls Try.prog 75 #[.func (.func 106) #[] #[.pointer (some ⟨Bt, 0, none⟩)]] w fun e w' => ∃ v, e = .returned v ∧ CL w' v (cellsN t.ng (t.nc * t.ng)) ∧ Below w.heap.size w w' := by
  have HA := Lib.hid (appendSeq_cells Bt x t hs nc4 ng4 w hT)
  clear hT hs
  go_enter Try.func75, Try.ntmps75
  go_wp2_with (go_at_call 105; refine HA.out.mono ?_; rintro _ w1 ⟨v, rfl, hc1, hb1⟩; have HC := Lib.hid hc1; clear hc1)
  obtain ⟨va, vc, rfl⟩ := HC.out.slice
  go_ret
  exact ⟨_, rfl, HC.out, hb1⟩
end Go.Proofs.Ytjaoflfophcibaa

namespace Go.Proofs.Ytjaoflfophcibaa
open Go.RowKit Go.Shelf

/-- The first list of records, from some on, without which the others leave a day. -/
def lvL (step : List Int → Nat → Option (List Int)) (nc : Nat) (out : List Int) : Nat → Option (List Int)
  | 0 => none
  | k + 1 => match step (out ++ [((nc - (k + 1) : Nat) : Int)]) (nc - (k + 1) + 1) with
    | some l => some l
    | none => lvL step nc out k
def lvF (nc : Nat) (ok : List Int → Bool) : Nat → List Int → Nat → Option (List Int)
  | 0, out, _ => if ok out then some out else none
  | m + 1, out, next => lvL (lvF nc ok m) nc out (nc - next)
/-- The cell of a number. -/
def idxC (ng : Nat) (k : Int) : Int × Int := (((k.toNat / ng : Nat) : Int), ((k.toNat % ng : Nat) : Int))
def cellsOf (ng : Nat) (l : List Int) : List (Int × Int) := l.map (idxC ng)
/-- Which counts are left out by numbers of cells. -/
def outs (ng : Nat) (l : List Int) : Nat → Nat → Bool := fun c g => l.any fun k => decide (k.toNat / ng = c) && decide (k.toNat % ng = g)
def okL (t : Tb) (l : List Int) : Bool := t.agree (outs t.ng l)
theorem outs_nil (ng : Nat) : outs ng [] = off0 := rfl
theorem outs_snoc (ng : Nat) (l : List Int) (k : Nat) : outs ng (l ++ [(k : Int)]) = fun c g => outs ng l c g || (decide (c = k / ng) && decide (g = k % ng)) := by
  funext c g
  unfold outs
  rw [List.any_append]
  simp only [List.any_cons, List.any_nil, Bool.or_false, Int.toNat_natCast]
  congr 1
  congr 1 <;> exact decide_eq_decide.2 ⟨Eq.symm, Eq.symm⟩
theorem cellsOf_snoc (ng : Nat) (l : List Int) (k : Nat) : cellsOf ng (l ++ [(k : Int)]) = cellsOf ng l ++ [(((k / ng : Nat) : Int), ((k % ng : Nat) : Int))] := by simp [cellsOf, idxC]
theorem outL_put {f : Nat → Nat → Bool} {c g : Nat} (hc : c < 4) (hg : g < 4) : (outL f).toArray.setIfInBounds (c * 4 + g) (.bool true) = (outL fun c' g' => f c' g' || (decide (c' = c) && decide (g' = g))).toArray := by
  have h : c = 0 ∨ c = 1 ∨ c = 2 ∨ c = 3 := by omega
  have h' : g = 0 ∨ g = 1 ∨ g = 2 ∨ g = 3 := by omega
  rcases h with rfl | rfl | rfl | rfl <;> rcases h' with rfl | rfl | rfl | rfl <;> simp [outL, List.range, List.range.loop]
theorem outL_get {f : Nat → Nat → Bool} {c g : Nat} (hc : c < 4) (hg : g < 4) : (outL f).toArray[c * 4 + g]? = some (.bool (f c g)) := by
  have h : c = 0 ∨ c = 1 ∨ c = 2 ∨ c = 3 := by omega
  have h' : g = 0 ∨ g = 1 ∨ g = 2 ∨ g = 3 := by omega
  rcases h with rfl | rfl | rfl | rfl <;> rcases h' with rfl | rfl | rfl | rfl <;> rfl
/-- What stands around the search. -/
structure LE (w0 W : World) (x : WV) (t : Tb) (Bt Bd Bl Bv : Nat) (lv : Value) : Prop where
  wl : WL w0 x t
  bel : Below w0.heap.size w0 W
  bt : W.heap[Bt]? = some (.cells #[x.cv t, x.bv t, x.rv t, x.nv t] 36 (0, 0))
  bd : ∃ fv, W.heap[Bd]? = some (.cells #[fv] 63 (0, 0))
  bl : W.heap[Bl]? = some (.cells #[lv] 63 (0, 0))
  bv : W.heap[Bv]? = some (.cells #[.func (.func 77) #[] #[.pointer (some ⟨Bt, 0, none⟩), .pointer (some ⟨Bd, 0, none⟩), .pointer (some ⟨Bl, 0, none⟩), .pointer (some ⟨Bv, 0, none⟩)]] 131 (0, 0))
  row : CL W lv (cellsN t.ng (t.nc * t.ng))
  ne : Bd ≠ Bl
  lo : w0.heap.size ≤ Bt ∧ w0.heap.size ≤ Bd ∧ w0.heap.size ≤ Bl ∧ w0.heap.size ≤ Bv
/-- What a search may write: the box of what is found, the row of its list. -/
def LX (w0 W : World) (lv ov : Value) : Prop := ∀ q, ov.ownBlock = some q → w0.heap.size ≤ q ∧ lv.ownBlock ≠ some q ∧ ∃ cur, W.heap[q]? = some (.cells cur 39 (0, 0))
section
variable {w0 W W' : World} {x : WV} {t : Tb} {Bt Bd Bl Bv : Nat} {lv ov : Value}
theorem LE.fr (h : LE w0 W x t Bt Bd Bl Bv lv) (ho : LX w0 W lv ov) (hf : Fr (fun q => q = Bd ∨ ov.ownBlock = some q) W W') (hd : ∃ fv, W'.heap[Bd]? = some (.cells #[fv] 63 (0, 0))) : LE w0 W' x t Bt Bd Bl Bv lv := by
  obtain ⟨l1, l2, l3, l4⟩ := h.lo
  obtain ⟨fv, hbd⟩ := h.bd
  have hne : ∀ (b : Nat) (cs : Array Value) (T : TypeId), W.heap[b]? = some (.cells cs T (0, 0)) → T ≠ 39 → b ≠ Bd → W'.heap[b]? = some (.cells cs T (0, 0)) := fun b cs T hb hT hn => by
    refine (hf.block b (Array.getElem?_eq_some_iff.1 hb).1 ?_).trans hb
    rintro (e | e)
    · exact hn e
    · obtain ⟨_, _, cur, hc⟩ := ho b e
      rw [hb] at hc; cases hc; exact hT rfl
  refine ⟨h.wl, h.bel.trans (hf.low h.bel.size (fun q hq e => ?_)), hne _ _ _ h.bt (by decide) ?_, hd, hne _ _ _ h.bl (by decide) h.ne.symm, hne _ _ _ h.bv (by decide) ?_, own_fr h.row hf ?_, h.ne, h.lo⟩
  · rcases e with e | e
    · omega
    · have := (ho q e).1; omega
  · rintro rfl; have := h.bt; rw [hbd] at this; cases this
  · rintro rfl; have := h.bv; rw [hbd] at this; cases this
  · rintro g cur hg _ hc (e | e)
    · subst e; rw [hbd] at hc; cases hc
    · exact (ho g e).2.1 hg
theorem LE.below (h : LE w0 W x t Bt Bd Bl Bv lv) (hb : Below W.heap.size W W') : LE w0 W' x t Bt Bd Bl Bv lv := by
  obtain ⟨fv, hbd⟩ := h.bd
  have hh : ∀ (b : Nat) (o : Obj), W.heap[b]? = some o → W'.heap[b]? = some o := fun b o ho => (hb.block b (Array.getElem?_eq_some_iff.1 ho).1).trans ho
  exact ⟨h.wl, below_step h.bel (hb.mono (Nat.le_refl _)), hh _ _ h.bt, ⟨fv, hh _ _ hbd⟩, hh _ _ h.bl, hh _ _ h.bv, h.row.below hb, h.ne, h.lo⟩
theorem LX.below (h : LX w0 W lv ov) (hb : Below W.heap.size W W') : LX w0 W' lv ov := fun q hq => by
  obtain ⟨h1, h2, cur, h3⟩ := h q hq
  exact ⟨h1, h2, cur, (hb.block q (Array.getElem?_eq_some_iff.1 h3).1).trans h3⟩
end
/-- What the search leaves. -/
def LvP (ng : Nat) (W : World) (Bd : Nat) (ov : Value) (out : List Int) (res : Option (List Int)) (e : Ending) (W' : World) : Prop :=
  CL W' ov (cellsOf ng out) ∧ Fr (fun q => q = Bd ∨ ov.ownBlock = some q) W W' ∧
  match res with
  | none => e = .returned (.bool false) ∧ W'.heap[Bd]? = W.heap[Bd]?
  | some l => e = .returned (.bool true) ∧ ∃ fv, W'.heap[Bd]? = some (.cells #[fv] 63 (0, 0)) ∧ CL W' fv (cellsOf ng l)
theorem LvP.mkNone {ng : Nat} {W : World} {Bd : Nat} {ov : Value} {out : List Int} {res : Option (List Int)} {e : Ending} {W' : World} (hr : res = none) (h1 : CL W' ov (cellsOf ng out)) (h2 : Fr (fun q => q = Bd ∨ ov.ownBlock = some q) W W') (h3 : e = .returned (.bool false)) (h4 : W'.heap[Bd]? = W.heap[Bd]?) : LvP ng W Bd ov out res e W' := by
  subst hr; exact ⟨h1, h2, h3, h4⟩
theorem LvP.mkSome {ng : Nat} {W : World} {Bd : Nat} {ov : Value} {out l : List Int} {res : Option (List Int)} {e : Ending} {W' : World} (hr : res = some l) (h1 : CL W' ov (cellsOf ng out)) (h2 : Fr (fun q => q = Bd ∨ ov.ownBlock = some q) W W') (h3 : e = .returned (.bool true)) (h4 : ∃ fv, W'.heap[Bd]? = some (.cells #[fv] 63 (0, 0)) ∧ CL W' fv (cellsOf ng l)) : LvP ng W Bd ov out res e W' := by
  subst hr; exact ⟨h1, h2, h3, h4⟩
theorem LvP.none {ng : Nat} {W : World} {Bd : Nat} {ov : Value} {out : List Int} {res : Option (List Int)} {e : Ending} {W' : World} (hr : res = none) (h : LvP ng W Bd ov out res e W') : e = .returned (.bool false) ∧ CL W' ov (cellsOf ng out) ∧ Fr (fun q => q = Bd ∨ ov.ownBlock = some q) W W' ∧ W'.heap[Bd]? = W.heap[Bd]? := by
  subst hr; exact ⟨h.2.2.1, h.1, h.2.1, h.2.2.2⟩
theorem LvP.some {ng : Nat} {W : World} {Bd : Nat} {ov : Value} {out l : List Int} {res : Option (List Int)} {e : Ending} {W' : World} (hr : res = some l) (h : LvP ng W Bd ov out res e W') : e = .returned (.bool true) ∧ CL W' ov (cellsOf ng out) ∧ Fr (fun q => q = Bd ∨ ov.ownBlock = Option.some q) W W' ∧ ∃ fv, W'.heap[Bd]? = Option.some (.cells #[fv] 63 (0, 0)) ∧ CL W' fv (cellsOf ng l) := by
  subst hr; exact ⟨h.2.2.1, h.1, h.2.1, h.2.2.2⟩
theorem Try.offBox (out : Nat → Nat → Bool) (W : World) : (W.alloc (.cells (outL out).toArray 110)).heap[W.heap.size]? = some (.cells (outL out).toArray 110 (0, 0)) := heap_alloc_new _ _
theorem off_range {W : World} {b : Nat} {out : Nat → Nat → Bool} (h : W.heap[b]? = some (.cells (outL out).toArray 110 (0, 0))) : W.rangeAt b 0 (outL out) := fun j v hv => by
  rw [Nat.zero_add, cell_of_row _ _ _ _ _ _ h]; simpa using hv
set_option maxRecDepth 100000 in
set_option maxHeartbeats 2000000 in
theorem lv_zero {t : Tb} (hG : Gd t) (w0 : World) (x : WV) (Bt Bd Bl Bv : Nat) (lv : Value) (next : Int) (ov : Value) (out : List Int) (W : World) (hE : LE w0 W x t Bt Bd Bl Bv lv) (hX : LX w0 W lv ov) (hI : CL W ov (cellsOf t.ng out)) (hl : out.length ≤ 1000) :
    Calls Try.prog 77 #[ov, .agg (outL (outs t.ng out)).toArray, .int .i64 next, .int .i64 0, .pointer (some ⟨Bt, 0, none⟩), .pointer (some ⟨Bd, 0, none⟩), .pointer (some ⟨Bl, 0, none⟩), .pointer (some ⟨Bv, 0, none⟩)] W (LvP t.ng W Bd ov out (lvF (t.nc * t.ng) (okL t) 0 out next.toNat)) := by
  have HWO : Hid (∀ X, Below W.heap.size W X → Calls Try.prog 58 #[.agg #[x.cv t, x.bv t, x.rv t, x.nv t], .agg (outL (outs t.ng out)).toArray] X fun e w' => ∃ B bm, e = .returned (.pointer (some ⟨B, 0, none⟩)) ∧ St w' B bm 0 x t (outs t.ng out) ∧ X.heap.size ≤ B ∧ X.heap.size ≤ bm ∧ Below X.heap.size X w') := fun X hX => work_any x t (outs t.ng out) X (hE.wl.below (hE.bel.trans (hX.mono hE.bel.size)))
  have HAG : Hid (∀ X B bm, St X B bm 0 x t (outs t.ng out) → Calls Try.prog 59 #[.pointer (some ⟨B, 0, none⟩)] X fun e w' => e = .returned (.bool (okL t out)) ∧ St w' B bm 340 x t (outs t.ng out) ∧ Fr (fun q => q = bm) X w') := fun X B bm h => (agree_all hG B bm x (outs t.ng out) 0 (by omega) X h).mono (fun _ _ h => ⟨h.1, by simpa using h.2.1, h.2.2⟩)
  have HE := Lib.hid hE; have HI := Lib.hid hI; have HX := Lib.hid hX
  obtain ⟨fv, hbd⟩ := hE.bd
  have hBd := (Array.getElem?_eq_some_iff.1 hbd).1
  have hT : ∀ X, Below W.heap.size W X → X.cell? ⟨Bt, 0, none⟩ = some (x.cv t) ∧ X.cell? ⟨Bt, 1, none⟩ = some (x.bv t) ∧ X.cell? ⟨Bt, 2, none⟩ = some (x.rv t) ∧ X.cell? ⟨Bt, 3, none⟩ = some (x.nv t) := fun X hX => cells4 ((hX.block _ (Array.getElem?_eq_some_iff.1 hE.bt).1).trans hE.bt)
  obtain ⟨d0, d1, d2, d3⟩ := hT _ (below_alloc W (.cells (outL (outs t.ng out)).toArray 110))
  have HBD := Lib.hid hbd
  have HRG := Lib.hid (off_range (Try.offBox (outs t.ng out) W))
  have hres : lvF (t.nc * t.ng) (okL t) 0 out next.toNat = if okL t out = true then some out else none := rfl
  have HRS := Lib.hid hres
  clear hE hI hX hbd hT hres hG
  simp only [WV.cv, WV.bv, WV.rv, WV.nv] at HWO d0 d1 d2 d3
  cases hok : okL t out
  · rw [hok] at HAG
    go_enter Try.func77, Try.ntmps77
    go_wp2_with (first | (refine wpList_box_row rfl 110 (.tmp 1) rfl (outL (outs t.ng out)).toArray rfl ?_) | (refine wpList_load_mid rfl 110 (.tmp 9) rfl W.heap.size 0 rfl (outL (outs t.ng out)) _ HRG.out Try.underlying110 rfl (by rw [outL_length]; exact Try.sizeOff) ?_) | (go_at_call 58; refine (HWO.out _ (below_alloc _ _)).mono ?_; rintro _ w1 ⟨B, bm, rfl, hs1, hB1, hm1, hb1⟩; have HS1 := Lib.hid hs1; have HB1 := Lib.hid (below_step (below_alloc W (.cells (outL (outs t.ng out)).toArray 110)) hb1); have hz1 := hb1.size; clear hs1 hb1 d0 d1 d2 d3) | (go_at_call 59; refine (HAG.out _ _ _ HS1.out).mono ?_; rintro _ w2 ⟨rfl, hs2, hf2⟩; have HB2 : Hid (Below W.heap.size W w2) := HB1.out.trans (hf2.low HB1.out.size (fun q hq e => by simp at hm1; omega)); clear hs2 hf2) | (go_at_call 78; refine (clone_cells _ _ _ (by unfold cellsOf; rw [List.length_map]; exact hl) (HI.out.below HB2.out)).mono ?_; rintro _ w3 ⟨v3, rfl, hc3, hb3⟩; have HB3 := Lib.hid (below_step HB2.out hb3); have HC3 := Lib.hid hc3; obtain ⟨va, vc, rfl⟩ := hc3.slice; have HK3 : Hid (w3.heap[Bd]? = some (.cells #[fv] 63 (0, 0))) := (HB3.out.block _ hBd).trans HBD.out; have g0 := cell_of_row _ _ 0 _ _ _ HK3.out; have g1 := frozen_of_row _ _ 0 _ _ HK3.out; clear hc3 hb3))
    go_ret
    exact LvP.mkNone (by rw [HRS.out, hok]; rfl) (HI.out.below HB2.out) (Fr.below HB2.out _) rfl (HB2.out.block _ hBd)
  · rw [hok] at HAG
    go_enter Try.func77, Try.ntmps77
    go_wp2_with (first | (refine wpList_box_row rfl 110 (.tmp 1) rfl (outL (outs t.ng out)).toArray rfl ?_) | (refine wpList_load_mid rfl 110 (.tmp 9) rfl W.heap.size 0 rfl (outL (outs t.ng out)) _ HRG.out Try.underlying110 rfl (by rw [outL_length]; exact Try.sizeOff) ?_) | (go_at_call 58; refine (HWO.out _ (below_alloc _ _)).mono ?_; rintro _ w1 ⟨B, bm, rfl, hs1, hB1, hm1, hb1⟩; have HS1 := Lib.hid hs1; have HB1 := Lib.hid (below_step (below_alloc W (.cells (outL (outs t.ng out)).toArray 110)) hb1); have hz1 := hb1.size; clear hs1 hb1 d0 d1 d2 d3) | (go_at_call 59; refine (HAG.out _ _ _ HS1.out).mono ?_; rintro _ w2 ⟨rfl, hs2, hf2⟩; have HB2 : Hid (Below W.heap.size W w2) := HB1.out.trans (hf2.low HB1.out.size (fun q hq e => by simp at hm1; omega)); clear hs2 hf2) | (go_at_call 78; refine (clone_cells _ _ _ (by unfold cellsOf; rw [List.length_map]; exact hl) (HI.out.below HB2.out)).mono ?_; rintro _ w3 ⟨v3, rfl, hc3, hb3⟩; have HB3 := Lib.hid (below_step HB2.out hb3); have HC3 := Lib.hid hc3; obtain ⟨va, vc, rfl⟩ := hc3.slice; have HK3 : Hid (w3.heap[Bd]? = some (.cells #[fv] 63 (0, 0))) := (HB3.out.block _ hBd).trans HBD.out; have g0 := cell_of_row _ _ 0 _ _ _ HK3.out; have g1 := frozen_of_row _ _ 0 _ _ HK3.out; clear hc3 hb3))
    go_ret
    have hsb : ∀ (l : List (Int × Int)) (v : Value), CL w3 v l → CL (w3.setCell ⟨Bd, 0, none⟩ (.slice va (cellsOf t.ng out).length vc)) v l := fun l v hv => own_fr hv (Fr.set w3 Bd 0 _) (fun g cur _ _ hg e => by subst e; rw [HK3.out] at hg; cases hg)
    exact LvP.mkSome (by rw [HRS.out, hok]; rfl) (hsb _ _ (HI.out.below HB3.out)) ((Fr.below HB3.out _).trans ((Fr.set w3 Bd 0 _).mono (fun _ _ h => .inl h))) rfl ⟨_, by simp [World.setCell, Array.getElem?_modify, HK3.out], hsb _ _ HC3.out⟩
end Go.Proofs.Ytjaoflfophcibaa
