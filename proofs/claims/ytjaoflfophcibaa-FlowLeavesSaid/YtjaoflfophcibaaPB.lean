/- A map from cells to ranges: its key's law; its elements' reader (turned from the Age seat's S7). | A table at work, in memory; last, own. | own. Printed by gen_fi.py. | sources. Printed by gen_fj.py. | The state of a table at work, over calls that may write its map. | up. Printed by gen_fl.py. | survivors. Printed by gen_fn.py. -/
import Derived.Test.YtjaoflfophcibaaPA
import Derived.Maps.OwnSet
import Derived.Maps.OwnOps
namespace Go.Proofs.Ytjaoflfophcibaa
open Go.RowKit Go.Shelf Go.Maps

theorem cRow : 39 < Try.prog.types.size := of_decide_eq_true (by kernel_rfl)
theorem cDeep3 : Try.prog.keyTypeAt 3 39 = true := by kernel_rfl
theorem cLaw : Keyed Try.prog 39 := Keyed.of_law (deep_law_laid Try.laidOut (m := 3) (by omega) cRow cDeep3 (by rw [Try.underlying39]))
theorem cZero (w : World) : (zeroValue 29).run Try.prog w = .ok (.agg #[.int .i64 0, .int .i64 0]) w := by kernel_rfl
def cKey (c g : Int) : Value := .agg #[.int .i64 c, .int .i64 g]
theorem wf64 {n : Int} (h : -1000 ≤ n ∧ n ≤ 1000) : (Lit.int .i64 n).wf = true := by
  have h1 : IntKind.i64.min ≤ -1000 := by decide
  have h2 : 1000 ≤ IntKind.i64.max := by decide
  simp only [Lit.wf, Bool.and_eq_true, decide_eq_true_eq]
  omega
theorem cSize : ∃ N, Try.prog.types.size + 1 = N + 1 + 1 + 1 := ⟨Try.prog.types.size - 2, by have : 2 < Try.prog.types.size := of_decide_eq_true (by kernel_rfl); omega⟩
theorem cFormed (c g : Int) : (cKey c g).formed Try.prog 39 = true := by kernel_rfl
theorem cKeyType : Try.prog.keyType 39 = true := by kernel_rfl
theorem cCells : Try.prog.cellsOf 39 = 2 ∧ Try.prog.cellsOf 3 = 1 := ⟨by kernel_rfl, by kernel_rfl⟩
theorem cKeyOf (c g : Int) (hc : 0 ≤ c ∧ c ≤ 140) (hg : 0 ≤ g ∧ g ≤ 140) : ∃ l, keyOf Try.prog 39 (cKey c g) = some l := by
  have w0 := wf64 (n := c) (by omega)
  have w1 := wf64 (n := g) (by omega)
  obtain ⟨N, hN⟩ := cSize
  obtain ⟨c1, c3⟩ := cCells
  unfold keyOf
  rw [Try.underlying39]
  simp only [cKeyType, cFormed, Bool.and_self, if_true, hN]
  refine ⟨.string (keyBytes [.int .i64 c, .int .i64 g]), ?_⟩
  rw [show Try.prog.keyLits (N + 1 + 1 + 1) 39 (cKey c g).cells.toList = some [.int .i64 c, .int .i64 g] from ?_]
  · rfl
  · simp [cKey, Value.cells, Program.keyLits, Try.underlying39, Try.underlying3, c1, c3, w0, w1]

/-- How a range reads: a struct of two ints. -/
def rgR (v : Value) : Option (DataW Unit × List MemPlace) :=
  match v with
  | .agg xs => (match xs.toList with | [.int .i64 x, .int .i64 y] => some (.agg [.lit (.int .i64 x), .lit (.int .i64 y)], []) | _ => none)
  | _ => none
theorem rgR_inv {v : Value} {z : DataW Unit × List MemPlace} (h : rgR v = some z) : ∃ x y, v = .agg #[.int .i64 x, .int .i64 y] ∧ z = (.agg [.lit (.int .i64 x), .lit (.int .i64 y)], []) := by
  cases v with
  | agg xs =>
    obtain ⟨l⟩ := xs
    match l, h with
    | [.int .i64 x, .int .i64 y], h => exact ⟨x, y, rfl, (Option.some.inj h).symm⟩
  | _ => simp [rgR] at h
/-- A map from cells to ranges: each key that is there has its range by F. -/
def CMD (D : DataW Unit) (F : Int → Int → R2) : Prop :=
  IsMap D ∧ ∀ c g kl, keyOf Try.prog 39 (cKey c g) = some kl → Maps.has D kl = true → ∀ z0, D.atKey kl z0 = .agg [.lit (.int .i64 (F c g).1), .lit (.int .i64 (F c g).2)]
def CM (w : World) (F : Int → Int → R2) (bm n : Nat) : Prop := ∃ D : DataW Unit, CMD D F ∧ w.ownsMap Try.prog 39 rgR bm n D
theorem CM.made (w : World) (F : Int → Int → R2) : CM (w.alloc (.map #[] 0)) F w.heap.size 0 :=
  ⟨.map [], ⟨isMap_empty, fun c g kl _ h => by simp [Maps.has] at h⟩, World.ownsMap_made _ _ _ _⟩
theorem CM.kept {w w' : World} {F : Int → Int → R2} {bm n : Nat} {row : Option Nat} (h : CM w F bm n) (hg : w.grownBy w' row) (hne : some bm ≠ row) : CM w' F bm n := by
  obtain ⟨D, h1, h2⟩ := h; exact ⟨D, h1, h2.kept hg hne⟩
theorem CM.lt {w : World} {F : Int → Int → R2} {bm n : Nat} (h : CM w F bm n) : bm < w.heap.size := by
  obtain ⟨D, h1, h2⟩ := h; exact h2.lt
theorem CM.mono {w : World} {F : Int → Int → R2} {bm n n' : Nat} (h : CM w F bm n) (hn : n ≤ n') : CM w F bm n' := by
  obtain ⟨D, h1, h2⟩ := h; exact ⟨D, h1, h2.mono hn⟩
theorem CM.below {w w' : World} {F : Int → Int → R2} {bm n : Nat} (h : CM w F bm n) (hb : Below w.heap.size w w') : CM w' F bm n :=
  h.kept (row := none) ⟨hb.1, hb.2, hb.3, hb.size, fun k hk _ => hb.block k hk⟩ (by simp)
theorem CM.setCell {w : World} {F : Int → Int → R2} {bm n : Nat} (h : CM w F bm n) {p : Addr} (hp : p.block ≠ bm) (u : Value) : CM (w.setCell p u) F bm n :=
  h.kept (row := some p.block) ⟨rfl, rfl, rfl, by simp [World.setCell], fun k _ hk => Below.heap_setCell _ _ _ _ (fun e => hk (by rw [e]))⟩ (fun e => hp (Option.some.inj e).symm)
/-- What a look-up in the map D gives, in whatever world holds it. -/
theorem look_cm {D : DataW Unit} {F : Int → Int → R2} (hD : CMD D F) {c g : Int} (hc : 0 ≤ c ∧ c ≤ 140) (hg : 0 ≤ g ∧ g ≤ 140) :
    ∃ h : Bool, ∀ (W : World) (bm m : Nat), W.ownsMap Try.prog 39 rgR bm m D →
      (Instr.lookup 124 (.map (some bm)) (cKey c g) true).run Try.prog W = .ok (.tuple #[.agg #[.int .i64 (if h then (F c g).1 else 0), .int .i64 (if h then (F c g).2 else 0)], .bool h]) W := by
  obtain ⟨kl, hkey⟩ := cKeyOf c g hc hg
  refine ⟨Maps.has D kl, fun W bm m hW => ?_⟩
  obtain ⟨v, ps, hrun, hv⟩ := hW.look_ok cLaw Try.underlying124 (cZero W) (zd := .agg [.lit (.int .i64 0), .lit (.int .i64 0)]) (zp := []) rfl hkey
  rw [hrun]
  obtain ⟨p, q, rfl, hpq⟩ := rgR_inv hv
  have hpq := congrArg Prod.fst hpq
  simp only at hpq
  cases hb : Maps.has D kl
  · rw [atKey_of_not_has hb] at hpq
    simp only [DataW.agg.injEq, List.cons.injEq, DataW.lit.injEq, Lit.int.injEq, and_true, true_and] at hpq
    obtain ⟨rfl, rfl⟩ := hpq
    rfl
  · rw [hD.2 c g kl hkey hb] at hpq
    simp only [DataW.agg.injEq, List.cons.injEq, DataW.lit.injEq, Lit.int.injEq, and_true, true_and] at hpq
    obtain ⟨rfl, rfl⟩ := hpq
    rfl
/-- A store into the map, in a region that draws. -/
theorem step_update_cm {ops : Array Oper} {o : Oper} {a : Act} {K : Act → World → Prop} {Q : Exit → Act → World → Prop} {E : Prop} {w : World} (hgd : o.guard = none) (x y v : Operand) (hop : o.op = Op.mapUpdate 124 x y v) (c g : Int) (hc : 0 ≤ c ∧ c ≤ 140) (hg : 0 ≤ g ∧ g ≤ 140) (F : Int → Int → R2) (bm n : Nat) (hn : n < maxLen)
    (hm : a.eval x = .map (some bm)) (hown : CM w F bm n) (hx : a.eval y = cKey c g) (hv : a.eval v = .agg #[.int .i64 (F c g).1, .int .i64 (F c g).2])
    (hK : ∀ w', CM w' F bm (n + 1) → w.grownBy w' (some bm) → K (a.put o.dst undef) w') :
    if Region.wanted o (yielded ops a.tmps) = true then Oper.wp Try.prog o a w K Q else E := by
  have hw : Region.wanted o (yielded ops a.tmps) = true := by simp [Region.wanted, hgd]
  rw [if_pos hw]
  obtain ⟨kl, hkey⟩ := cKeyOf c g hc hg
  obtain ⟨D, ⟨h1, h3⟩, h2⟩ := hown
  obtain ⟨w', hrun, r1, r2⟩ := h2.update cLaw Try.underlying124 hn hkey (val := .agg #[.int .i64 (F c g).1, .int .i64 (F c g).2]) (d := .agg [.lit (.int .i64 (F c g).1), .lit (.int .i64 (F c g).2)]) (ps := []) rfl
  have hC : CM w' F bm (n + 1) := ⟨_, ⟨h1.put _ _, fun c' g' kl' hk' hh z0 => by
    by_cases e : kl' = kl
    · subst e
      have := cLaw.inj hk' hkey
      simp only [cKey, Value.agg.injEq, Array.mk.injEq, List.cons.injEq, Value.int.injEq, true_and, and_true] at this
      obtain ⟨rfl, rfl⟩ := this
      rw [atKey_put_same h1 (cLaw.key hkey)]
    · rw [has_put_other e] at hh
      rw [atKey_put_other e]
      exact h3 c' g' kl' hk' hh z0⟩, r1⟩
  unfold Oper.wp
  simp [execOp, hop, hm, hx, hv, hrun, Result.andThen]
  exact hK w' hC r2
end Go.Proofs.Ytjaoflfophcibaa

namespace Go.Proofs.Ytjaoflfophcibaa
open Go.RowKit Go.Shelf

/-- Which counts are left out, as the program has them. -/
def outL (out : Nat → Nat → Bool) : List Value := (List.range 16).map fun i => .bool (out (i / 4) (i % 4))
/-- The cells of a table at work. -/
def workA (cv bv rv nv : Value) (out : Nat → Nat → Bool) (bm : Nat) : Array Value := List.toArray ([cv, bv, rv, nv] ++ outL out ++ [Value.map (some bm)])
theorem workA_get (cv bv rv nv : Value) (out : Nat → Nat → Bool) (bm : Nat) : (workA cv bv rv nv out bm)[0]? = some cv ∧ (workA cv bv rv nv out bm)[1]? = some bv ∧ (workA cv bv rv nv out bm)[2]? = some rv ∧ (workA cv bv rv nv out bm)[3]? = some nv ∧ (workA cv bv rv nv out bm)[20]? = some (.map (some bm)) ∧ ∀ c g, c < 4 → g < 4 → (workA cv bv rv nv out bm)[4 + (c * 4 + g)]? = some (.bool (out c g)) := by
  refine ⟨rfl, rfl, rfl, rfl, rfl, fun c g hc hg => ?_⟩
  match c, hc, g, hg with
  | 0, _, 0, _ => rfl
  | 0, _, 1, _ => rfl
  | 0, _, 2, _ => rfl
  | 0, _, 3, _ => rfl
  | 1, _, 0, _ => rfl
  | 1, _, 1, _ => rfl
  | 1, _, 2, _ => rfl
  | 1, _, 3, _ => rfl
  | 2, _, 0, _ => rfl
  | 2, _, 1, _ => rfl
  | 2, _, 2, _ => rfl
  | 2, _, 3, _ => rfl
  | 3, _, 0, _ => rfl
  | 3, _, 1, _ => rfl
  | 3, _, 2, _ => rfl
  | 3, _, 3, _ => rfl
/-- What a table at work consists of: the values of its four lists. -/
structure WV where
  ca : Option Addr
  cc : Nat
  ba : Option Addr
  bc : Nat
  ra : Option Addr
  rc : Nat
  na : Option Addr
  nc : Nat
def WV.cv (x : WV) (t : Tb) : Value := .slice x.ca t.nc x.cc
def WV.bv (x : WV) (t : Tb) : Value := .slice x.ba t.nb x.bc
def WV.rv (x : WV) (t : Tb) : Value := .slice x.ra t.nr x.rc
def WV.nv (x : WV) (t : Tb) : Value := .slice x.na t.nn x.nc
/-- The lists of the table lie in the world. -/
def WL (W : World) (x : WV) (t : Tb) : Prop := RowsAt W (x.cv t) t.nc t.rl t.ct ∧ RsAt W (x.bv t) t.nb t.b ∧ RsAt W (x.rv t) t.nr t.r ∧ RsAt W (x.nv t) t.nn t.n
theorem WL.below {W W' : World} {x : WV} {t : Tb} (h : WL W x t) (hB : Below W.heap.size W W') : WL W' x t := ⟨h.1.below hB, h.2.1.below hB, h.2.2.1.below hB, h.2.2.2.below hB⟩
theorem WL.tb {W : World} {x : WV} {t : Tb} (h : WL W x t) : TbAt W (.agg #[x.cv t, x.bv t, x.rv t, x.nv t]) t := ⟨_, _, _, _, _, _, _, _, rfl, h.1, h.2.1, h.2.2.1, h.2.2.2⟩
/-- The block B is a table at work, its map is bm. -/
def WB (W : World) (B : Nat) (x : WV) (t : Tb) (out : Nat → Nat → Bool) (bm : Nat) : Prop := W.heap[B]? = some (.cells (workA (x.cv t) (x.bv t) (x.rv t) (x.nv t) out bm) 126 (0, 0))
theorem WB.cells {W : World} {B : Nat} {x : WV} {t : Tb} {out : Nat → Nat → Bool} {bm : Nat} (h : WB W B x t out bm) :
    W.cell? ⟨B, 0, none⟩ = some (x.cv t) ∧ W.cell? ⟨B, 1, none⟩ = some (x.bv t) ∧ W.cell? ⟨B, 2, none⟩ = some (x.rv t) ∧ W.cell? ⟨B, 3, none⟩ = some (x.nv t) ∧ W.cell? ⟨B, 20, none⟩ = some (.map (some bm)) ∧ ∀ c g, c < 4 → g < 4 → W.cell? ⟨B, 4 + (c * 4 + g), none⟩ = some (.bool (out c g)) := by
  obtain ⟨h0, h1, h2, h3, h4, h5⟩ := workA_get (x.cv t) (x.bv t) (x.rv t) (x.nv t) out bm
  exact ⟨(cell_of_row _ _ 0 _ _ _ h).trans h0, (cell_of_row _ _ 1 _ _ _ h).trans h1, (cell_of_row _ _ 2 _ _ _ h).trans h2, (cell_of_row _ _ 3 _ _ _ h).trans h3, (cell_of_row _ _ 20 _ _ _ h).trans h4, fun c g hc hg => (cell_of_row _ _ _ _ _ _ h).trans (h5 c g hc hg)⟩
theorem WB.below {W W' : World} {B : Nat} {x : WV} {t : Tb} {out : Nat → Nat → Bool} {bm : Nat} (h : WB W B x t out bm) (hB : Below W.heap.size W W') : WB W' B x t out bm := (hB.block _ (Array.getElem?_eq_some_iff.1 h).1).trans h

set_option maxRecDepth 100000 in
set_option maxHeartbeats 1000000 in
theorem last_any (B bm : Nat) (x : WV) (t : Tb) (out : Nat → Nat → Bool) (w : World) (hb : WB w B x t out bm) (hl : WL w x t) (hs : t.small) :
    Calls Try.prog 93 #[.pointer (some ⟨B, 0, none⟩)] w fun e w' => e = .returned (.int .i64 ((t.ng : Int) - 1)) ∧ Below w.heap.size w w' := by
  have HG := Lib.hid (groups_any _ t w hl.tb hs)
  obtain ⟨k0, k1, k2, k3, _, _⟩ := hb.cells
  have hg := hs.ng
  clear hb hl hs
  generalize t.ng = g at *
  unfold WV.cv at *
  unfold WV.bv at *
  unfold WV.rv at *
  unfold WV.nv at *
  go_enter Try.func93, Try.ntmps93
  go_wp2_with (go_at_call 57; refine HG.out.mono ?_; rintro _ w1 ⟨rfl, hb1⟩)
  go_ret
  exact ⟨rfl, hb1⟩
end Go.Proofs.Ytjaoflfophcibaa

namespace Go.Proofs.Ytjaoflfophcibaa
open Go.RowKit Go.Shelf

attribute [local go_sem ↓] Go.wp_at_zero Go.wp_at_succ
set_option maxRecDepth 100000 in
set_option maxHeartbeats 4000000 in
theorem own_any (B bm : Nat) (x : WV) (t : Tb) (out : Nat → Nat → Bool) (c g : Nat) (w : World) (hb : WB w B x t out bm) (hl : WL w x t) (hs : t.small) (hc : c < t.nc) (hc4 : c < 4) (hg : g < t.rl c) (hg4 : g < 4) :
    Calls Try.prog 101 #[.pointer (some ⟨B, 0, none⟩), .agg #[.int .i64 c, .int .i64 g]] w fun e w' => e = .returned (.agg #[.int .i64 (t.own out c g).1, .int .i64 (t.own out c g).2]) ∧ Below w.heap.size w w' := by
  have hB : B < w.heap.size := (Array.getElem?_eq_some_iff.1 hb).1
  obtain ⟨k0, _, _, _, _, k5⟩ := hb.cells
  have k6 := k5 c g hc4 hg4
  rw [← Nat.add_assoc] at k6
  obtain ⟨rb, ro, ra, rc, e1, hrb, k7, hr⟩ := hl.1.at hc
  obtain ⟨b2, o2, e2, hb2, k8, k9⟩ := hr.at hg
  subst e2
  have hls := hs.2.1 c
  have hns := hs.1
  obtain ⟨ca, cc, ba, bc, ra', rc', na, nc'⟩ := x
  simp only [WV.cv] at k0 e1
  subst e1
  have HOW : Hid (t.own out c g = if out c g = true then (0, 1048576) else t.ct c g) := rfl
  clear hb hl hs k5 hr
  generalize t.own out c g = ow at *
  obtain ⟨p, hp⟩ : ∃ p, p = (t.ct c g).1 := ⟨_, rfl⟩
  obtain ⟨q, hq⟩ : ∃ q, q = (t.ct c g).2 := ⟨_, rfl⟩
  rw [← hp] at k8
  rw [← hq] at k9
  have HPQ : Hid (t.ct c g = (p, q)) := by unfold Hid; rw [hp, hq]
  clear hp hq
  generalize t.rl c = l at *
  generalize t.nc = nc at *
  have HB0 : Hid (Below w.heap.size w ((w.alloc (.cells #[.int .i64 c, .int .i64 g] 39)).alloc (.cells #[.int .i64 0, .int .i64 0] 29))) := (below_alloc _ _).alloc (by simp) _
  have ki : (0 : Int) ≤ (c : Int) := by omega
  have kj : (c : Int) < (nc : Int) := by omega
  have gi : (0 : Int) ≤ (g : Int) := by omega
  have gj : (g : Int) < (l : Int) := by omega
  have ki4 : (c : Int) < 4 := by omega
  have gi4 : (g : Int) < 4 := by omega
  go_enter Try.func101, Try.ntmps101
  cases hO : out c g
  · rw [hO] at k6
    have HV : Hid (ow = (p, q)) := by unfold Hid; rw [HOW.out, if_neg (by rw [hO]; decide), HPQ.out]
    go_upto_region 1 with fail
    go_quiet (fail)
    go_upto_region 3 with fail
    have HM : Hid (Below ((w.alloc (.cells #[.int .i64 c, .int .i64 g] 39)).alloc (.cells #[.int .i64 0, .int .i64 0] 29)).heap.size ((w.alloc (.cells #[.int .i64 c, .int .i64 g] 39)).alloc (.cells #[.int .i64 0, .int .i64 0] 29)) (World.drew (World.drewN ((w.alloc (.cells #[.int .i64 c, .int .i64 g] 39)).alloc (.cells #[.int .i64 0, .int .i64 0] 29)) nq))) := ⟨rfl, rfl, rfl, Nat.le_refl _, fun _ _ => rfl⟩
    have HO : Hid ((World.drew (World.drewN ((w.alloc (.cells #[.int .i64 c, .int .i64 g] 39)).alloc (.cells #[.int .i64 0, .int .i64 0] 29)) nq)).heap[w.heap.size + 1]? = some (.cells #[.int .i64 0, .int .i64 0] 29 (0, 0))) := by
      have h := heap_alloc_new (w.alloc (.cells #[.int .i64 c, .int .i64 g] 39)) (.cells #[.int .i64 0, .int .i64 0] 29)
      simp only [World.size_alloc] at h
      exact h
    have HBX : Hid (Below w.heap.size w (World.drew (World.drewN ((w.alloc (.cells #[.int .i64 c, .int .i64 g] 39)).alloc (.cells #[.int .i64 0, .int .i64 0] 29)) nq))) := HB0.out.trans (HM.out.mono HB0.out.size)
    have HK : Hid ((World.drew (World.drewN ((w.alloc (.cells #[.int .i64 c, .int .i64 g] 39)).alloc (.cells #[.int .i64 0, .int .i64 0] 29)) nq)).heap[w.heap.size]? = some (.cells #[.int .i64 c, .int .i64 g] 39 (0, 0))) := (Below.heap_alloc (w.alloc (.cells #[.int .i64 c, .int .i64 g] 39)) _ _ (by simp)).trans (heap_alloc_new w (.cells #[.int .i64 c, .int .i64 g] 39))
    refine wp_region_held_drew (S := fun X => X.cell? ⟨w.heap.size, 0, none⟩ = some (.int .i64 c) ∧ X.cell? ⟨w.heap.size, 1, none⟩ = some (.int .i64 g) ∧ X.cell? ⟨B, 0, none⟩ = some (.slice (some ⟨rb, ro, none⟩) nc cc) ∧ X.cell? ⟨rb, ro + c, none⟩ = some (.slice (some ⟨b2, o2, none⟩) l rc) ∧ X.cell? ⟨b2, o2 + g * 2, none⟩ = some (.int .i64 p) ∧ X.cell? ⟨b2, o2 + g * 2 + 1, none⟩ = some (.int .i64 q)) (by kernel_rfl) ⟨cell_of_row _ _ 0 _ _ _ HK.out, cell_of_row _ _ 1 _ _ _ HK.out, (HBX.out.cell (p := ⟨B, 0, none⟩) hB).trans k0, (HBX.out.cell (p := ⟨rb, ro + c, none⟩) hrb).trans k7, (HBX.out.cell (p := ⟨b2, o2 + g * 2, none⟩) hb2).trans k8, (HBX.out.cell (p := ⟨b2, o2 + g * 2 + 1, none⟩) hb2).trans k9⟩ (fun hS => ?_)
    generalize World.drew (World.drewN ((w.alloc (.cells #[.int .i64 c, .int .i64 g] 39)).alloc (.cells #[.int .i64 0, .int .i64 0] 29)) nq) = X at *
    refine tH 0 (oi := ⟨_, _, _, _, _, _⟩) (v := .pointer (some ⟨B, 0, none⟩)) rfl (by kernel_rfl) (by rfl) (fun _ _ _ h => h) hS ?_ ?_
    · rintro W' ⟨s0, s1, s2, s3, s4, s5⟩; go_simp
    try simp only [Act.put, putA, putZ, putS]
    refine tH 1 (oi := ⟨_, _, _, _, _, _⟩) (v := .pointer (some ⟨B, 0, none⟩)) rfl (by kernel_rfl) (by rfl) (fun _ _ _ h => h) hS ?_ ?_
    · rintro W' ⟨s0, s1, s2, s3, s4, s5⟩; go_simp
    try simp only [Act.put, putA, putZ, putS]
    refine tH 2 (oi := ⟨_, _, _, _, _, _⟩) (v := .pointer (some ⟨B, 0, none⟩)) rfl (by kernel_rfl) (by rfl) (fun _ _ _ h => h) hS ?_ ?_
    · rintro W' ⟨s0, s1, s2, s3, s4, s5⟩; go_simp
    try simp only [Act.put, putA, putZ, putS]
    refine tH 3 (oi := ⟨_, _, _, _, _, _⟩) (v := .pointer (some ⟨B, 0, none⟩)) rfl (by kernel_rfl) (by rfl) (fun _ _ _ h => h) hS ?_ ?_
    · rintro W' ⟨s0, s1, s2, s3, s4, s5⟩; go_simp
    try simp only [Act.put, putA, putZ, putS]
    refine tH 4 (oi := ⟨_, _, _, _, _, _⟩) (v := .slice (some ⟨rb, ro, none⟩) nc cc) rfl (by kernel_rfl) (by rfl) (fun _ _ _ h => h) hS ?_ ?_
    · rintro W' ⟨s0, s1, s2, s3, s4, s5⟩; go_simp
    try simp only [Act.put, putA, putZ, putS]
    refine tH 5 (oi := ⟨_, _, _, _, _, _⟩) (v := .pointer (some ⟨w.heap.size, 0, none⟩)) rfl (by kernel_rfl) (by rfl) (fun _ _ _ h => h) hS ?_ ?_
    · rintro W' ⟨s0, s1, s2, s3, s4, s5⟩; go_simp
    try simp only [Act.put, putA, putZ, putS]
    refine tH 6 (oi := ⟨_, _, _, _, _, _⟩) (v := .int .i64 c) rfl (by kernel_rfl) (by rfl) (fun _ _ _ h => h) hS ?_ ?_
    · rintro W' ⟨s0, s1, s2, s3, s4, s5⟩; go_simp
    try simp only [Act.put, putA, putZ, putS]
    refine tH 7 (oi := ⟨_, _, _, _, _, _⟩) (v := .pointer (some ⟨rb, ro + c, none⟩)) rfl (by kernel_rfl) (by rfl) (fun _ _ _ h => h) hS ?_ ?_
    · rintro W' ⟨s0, s1, s2, s3, s4, s5⟩; go_simp
    try simp only [Act.put, putA, putZ, putS]
    refine tH 8 (oi := ⟨_, _, _, _, _, _⟩) (v := .slice (some ⟨b2, o2, none⟩) l rc) rfl (by kernel_rfl) (by rfl) (fun _ _ _ h => h) hS ?_ ?_
    · rintro W' ⟨s0, s1, s2, s3, s4, s5⟩; go_simp
    try simp only [Act.put, putA, putZ, putS]
    refine tH 9 (oi := ⟨_, _, _, _, _, _⟩) (v := .pointer (some ⟨w.heap.size, 1, none⟩)) rfl (by kernel_rfl) (by rfl) (fun _ _ _ h => h) hS ?_ ?_
    · rintro W' ⟨s0, s1, s2, s3, s4, s5⟩; go_simp
    try simp only [Act.put, putA, putZ, putS]
    refine tH 10 (oi := ⟨_, _, _, _, _, _⟩) (v := .int .i64 g) rfl (by kernel_rfl) (by rfl) (fun _ _ _ h => h) hS ?_ ?_
    · rintro W' ⟨s0, s1, s2, s3, s4, s5⟩; go_simp
    try simp only [Act.put, putA, putZ, putS]
    refine tH 11 (oi := ⟨_, _, _, _, _, _⟩) (v := .pointer (some ⟨b2, o2 + g * 2, none⟩)) rfl (by kernel_rfl) (by rfl) (fun _ _ _ h => h) hS ?_ ?_
    · rintro W' ⟨s0, s1, s2, s3, s4, s5⟩; go_simp
    try simp only [Act.put, putA, putZ, putS]
    refine tH 12 (oi := ⟨_, _, _, _, _, _⟩) (v := .agg #[.int .i64 p, .int .i64 q]) rfl (by kernel_rfl) (by rfl) (fun _ _ _ h => h) hS ?_ ?_
    · rintro W' ⟨s0, s1, s2, s3, s4, s5⟩; go_simp
    try simp only [Act.put, putA, putZ, putS]
    refine wpAnyH_ready (rs := [13]) (by kernel_rfl) (by simp) ?_
    refine AllReadyH.cons (o := ⟨none, _, _, _, _, _⟩) rfl (fun K hK => ?_) AllReadyH.nil
    have eb := HO.out
    have e0 := cell_of_row _ _ 0 _ _ _ eb
    have e1 := cell_of_row _ _ 1 _ _ _ eb
    have f0 := frozen_of_row _ _ 0 _ _ eb
    have f1 := frozen_of_row _ _ 1 _ _ eb
    have HN : Hid (((X.setCell ⟨w.heap.size + 1, 0, none⟩ (.int .i64 p)).setCell ⟨w.heap.size + 1, 1, none⟩ (.int .i64 q)).heap[w.heap.size + 1]? = some (.cells #[.int .i64 p, .int .i64 q] 29 (0, 0))) := by unfold Hid; simp [World.setCell, Array.getElem?_modify, eb]
    have HE : Hid (Below w.heap.size w ((X.setCell ⟨w.heap.size + 1, 0, none⟩ (.int .i64 p)).setCell ⟨w.heap.size + 1, 1, none⟩ (.int .i64 q))) := ((HB0.out.trans (HM.out.mono HB0.out.size)).setCell (by simp) _).setCell (by simp) _
    have HC : Hid ((fun X : World => X.cell? ⟨w.heap.size, 0, none⟩ = some (.int .i64 c) ∧ X.cell? ⟨w.heap.size, 1, none⟩ = some (.int .i64 g) ∧ X.cell? ⟨B, 0, none⟩ = some (.slice (some ⟨rb, ro, none⟩) nc cc) ∧ X.cell? ⟨rb, ro + c, none⟩ = some (.slice (some ⟨b2, o2, none⟩) l rc) ∧ X.cell? ⟨b2, o2 + g * 2, none⟩ = some (.int .i64 p) ∧ X.cell? ⟨b2, o2 + g * 2 + 1, none⟩ = some (.int .i64 q)) ((X.setCell ⟨w.heap.size + 1, 0, none⟩ (.int .i64 p)).setCell ⟨w.heap.size + 1, 1, none⟩ (.int .i64 q))) := by
      obtain ⟨s0, s1, s2, s3, s4, s5⟩ := hS
      refine ⟨?_, ?_, ?_, ?_, ?_, ?_⟩ <;> (rw [World.cell?_setCell_far, World.cell?_setCell_far] <;> first | assumption | (simp <;> omega))
    clear eb
    go_simp
    refine hK.out _ _ (HC.out) (fun hS => ?_)
    clear hK K
    (try simp only [Act.put])
    clear e0 e1 f0 f1
    refine wpAnyH_done (by kernel_rfl) ?_ _
    go_wp2_with fail
    have e0 := cell_of_row _ _ 0 _ _ _ HN.out
    have e1 := cell_of_row _ _ 1 _ _ _ HN.out
    refine bodyPost_ret (v := .agg #[.int .i64 p, .int .i64 q]) (by simp [results, Try.results101, go_sem, e0, e1]) rfl ⟨by rw [HV.out], HE.out⟩
  · rw [hO] at k6
    have HV : Hid (ow = (0, 1048576)) := by unfold Hid; rw [HOW.out, if_pos hO]
    go_upto_region 1 with fail
    go_quiet (fail)
    go_wp2
    have HO : Hid ((World.drewN ((w.alloc (.cells #[.int .i64 c, .int .i64 g] 39)).alloc (.cells #[.int .i64 0, .int .i64 0] 29)) nq).heap[w.heap.size + 1]? = some (.cells #[.int .i64 0, .int .i64 0] 29 (0, 0))) := by
      have h := heap_alloc_new (w.alloc (.cells #[.int .i64 c, .int .i64 g] 39)) (.cells #[.int .i64 0, .int .i64 0] 29)
      simp only [World.size_alloc] at h
      exact h
    have HM : Hid (Below ((w.alloc (.cells #[.int .i64 c, .int .i64 g] 39)).alloc (.cells #[.int .i64 0, .int .i64 0] 29)).heap.size ((w.alloc (.cells #[.int .i64 c, .int .i64 g] 39)).alloc (.cells #[.int .i64 0, .int .i64 0] 29)) (World.drewN ((w.alloc (.cells #[.int .i64 c, .int .i64 g] 39)).alloc (.cells #[.int .i64 0, .int .i64 0] 29)) nq)) := ⟨rfl, rfl, rfl, Nat.le_refl _, fun _ _ => rfl⟩
    generalize World.drewN ((w.alloc (.cells #[.int .i64 c, .int .i64 g] 39)).alloc (.cells #[.int .i64 0, .int .i64 0] 29)) nq = X at *
    have eb := HO.out
    have HN : Hid (((X.setCell ⟨w.heap.size + 1, 0, none⟩ (.int .i64 0)).setCell ⟨w.heap.size + 1, 1, none⟩ (.int .i64 1048576)).heap[w.heap.size + 1]? = some (.cells #[.int .i64 0, .int .i64 1048576] 29 (0, 0))) := by unfold Hid; simp [World.setCell, Array.getElem?_modify, eb]
    have HE : Hid (Below w.heap.size w ((X.setCell ⟨w.heap.size + 1, 0, none⟩ (.int .i64 0)).setCell ⟨w.heap.size + 1, 1, none⟩ (.int .i64 1048576))) := ((HB0.out.trans (HM.out.mono HB0.out.size)).setCell (by simp) _).setCell (by simp) _
    have e0 := cell_of_row _ _ 0 _ _ _ HN.out
    have e1 := cell_of_row _ _ 1 _ _ _ HN.out
    refine bodyPost_ret (v := .agg #[.int .i64 0, .int .i64 1048576]) (by simp [results, Try.results101, go_sem, e0, e1]) rfl ⟨by rw [HV.out], HE.out⟩
end Go.Proofs.Ytjaoflfophcibaa

namespace Go.Proofs.Ytjaoflfophcibaa
open Go.RowKit Go.Shelf

def flat (l : List (Int × Int)) : List Value := l.flatMap fun r => [.int .i64 r.1, .int .i64 r.2]
theorem flat_append (a b : List (Int × Int)) : flat (a ++ b) = flat a ++ flat b := by simp [flat]
theorem flat_length (a : List (Int × Int)) : (flat a).length = a.length * 2 := by
  induction a with
  | nil => rfl
  | cons x l ih => simp only [flat, List.flatMap_cons, List.length_append] at ih ⊢; rw [ih]; simp; omega
theorem flat_get (l : List (Int × Int)) (k : Nat) (hk : k < l.length) : (flat l)[k * 2]? = some (.int .i64 l[k].1) ∧ (flat l)[k * 2 + 1]? = some (.int .i64 l[k].2) := by
  induction l generalizing k with
  | nil => simp at hk
  | cons x l ih =>
    cases k with
    | zero => exact ⟨rfl, rfl⟩
    | succ k =>
      have := ih k (by simpa using hk)
      refine ⟨?_, ?_⟩
      · have h2 : (flat (x :: l))[(k + 1) * 2]? = (flat l)[k * 2]? := by rw [show (k + 1) * 2 = k * 2 + 1 + 1 from by omega]; rfl
        rw [h2, this.1]; rfl
      · have h2 : (flat (x :: l))[(k + 1) * 2 + 1]? = (flat l)[k * 2 + 1]? := by rw [show (k + 1) * 2 + 1 = k * 2 + 1 + 1 + 1 from by omega]; rfl
        rw [h2, this.2]; rfl
theorem flat_one (l : List (Int × Int)) : ∀ u ∈ flat l, u.oneCell' = true := by
  intro u hu
  simp only [flat, List.mem_flatMap, List.mem_cons, List.not_mem_nil, or_false] at hu
  obtain ⟨c, _, rfl | rfl⟩ := hu <;> rfl

theorem Try.infoCell : (Try.prog.info? 39).map (fun i => (i.zero, i.size, i.bytes)) = some (some (.agg #[.int .i64 0, .int .i64 0]), 2, 16) := by kernel_rfl
def srcL1 (c g : Nat) : List (Int × Int) := if 0 < g then [((c : Int) - 1, (g : Int) - 1)] else []
/-- The cells that lead to a cell. -/
def srcL (t : Tb) (c g : Nat) : List (Int × Int) := srcL1 c g ++ if g + 1 = t.ng then [((c : Int) - 1, (g : Int))] else []
attribute [local go_sem ↓] Go.wp_at_zero Go.wp_at_succ
set_option maxRecDepth 100000 in
set_option maxHeartbeats 4000000 in
theorem sources_any (B bm : Nat) (x : WV) (t : Tb) (out : Nat → Nat → Bool) (c g : Nat) (w : World) (hb : WB w B x t out bm) (hl : WL w x t) (hs : t.small) (hc : 1 ≤ c) (hc2 : c ≤ 1000) (hg : g ≤ 1000) :
    Calls Try.prog 95 #[.pointer (some ⟨B, 0, none⟩), .agg #[.int .i64 c, .int .i64 g]] w fun e w' => ∃ v, e = .returned v ∧ w'.ownsRow 0 39 2 v (srcL t c g).length (flat (srcL t c g)) ∧ Below w.heap.size w w' := by
  obtain ⟨i0, hi0, hz0, hz1, hz2⟩ := info_parts Try.infoCell
  have HLA : Hid (∀ X, Below (w.alloc (.cells #[.int .i64 c, .int .i64 g] 39)).heap.size (w.alloc (.cells #[.int .i64 c, .int .i64 g] 39)) X → Calls Try.prog 93 #[.pointer (some ⟨B, 0, none⟩)] X fun e w' => e = .returned (.int .i64 ((t.ng : Int) - 1)) ∧ Below X.heap.size X w') := fun X hX => last_any B bm x t out X (hb.below (below_step (below_alloc _ _) hX)) (hl.below (below_step (below_alloc _ _) hX)) hs
  have hng := hs.ng
  have HCE : Hid (∀ X : World, Below (w.alloc (.cells #[.int .i64 c, .int .i64 g] 39)).heap.size (w.alloc (.cells #[.int .i64 c, .int .i64 g] 39)) X → X.cell? ⟨w.heap.size, 0, none⟩ = some (.int .i64 c) ∧ X.cell? ⟨w.heap.size, 1, none⟩ = some (.int .i64 g)) := fun X hX => by
    have k := (hX.block w.heap.size (by simp)).trans (heap_alloc_new w (.cells #[.int .i64 c, .int .i64 g] 39))
    exact ⟨cell_of_row _ _ 0 _ _ _ k, cell_of_row _ _ 1 _ _ _ k⟩
  have HBW : Hid (∀ X : World, Below (w.alloc (.cells #[.int .i64 c, .int .i64 g] 39)).heap.size (w.alloc (.cells #[.int .i64 c, .int .i64 g] 39)) X → Below w.heap.size w X) := fun X hX => below_step (below_alloc _ _) hX
  have HN1 : Hid (((w.alloc (.cells #[.int .i64 c, .int .i64 g] 39)).alloc (.cells #[.int .i64 ((c : Int) - 1), .int .i64 ((g : Int) - 1)] 39)).heap[w.heap.size + 1]? = some (.cells #[.int .i64 ((c : Int) - 1), .int .i64 ((g : Int) - 1)] 39 (0, 0))) := by
    have h := heap_alloc_new (w.alloc (.cells #[.int .i64 c, .int .i64 g] 39)) (.cells #[.int .i64 ((c : Int) - 1), .int .i64 ((g : Int) - 1)] 39)
    rw [World.size_alloc] at h; exact h
  have HL1 : Hid (srcL1 c g = if 0 < g then [((c : Int) - 1, (g : Int) - 1)] else []) := rfl
  clear hb hl hs
  go_enter Try.func95, Try.ntmps95
  by_cases g0 : 0 < g
  · go_wp2_with (at_builtin; refine wpList_append_src _ rfl (.tmp 8) (.tmp 16) 63 rfl 0 39 i0 (.agg #[.int .i64 0, .int .i64 0]) 2 16 Try.underlying63 hi0 hz0 hz1 hz2 rfl (by decide) (.slice none 0 0) 0 [] rfl (World.ownsRow_nil _ _ _ _) (some ⟨w.heap.size + 1, 0, none⟩) 1 1 (flat [((c : Int) - 1, (g : Int) - 1)]) rfl ⟨rfl, fun j u hu => ⟨_, rfl, World.news_of_block HN1.out j u hu⟩⟩ (flat_one _) ?a1 ?a2 (Nat.zero_le _) ?_)
    case a1 => unfold maxLen; omega
    case a2 => omega
    intro v1 X9 hown hgrow hlt
    have HB9 : Hid (Below (w.alloc (.cells #[.int .i64 c, .int .i64 g] 39)).heap.size (w.alloc (.cells #[.int .i64 c, .int .i64 g] 39)) X9) := ((Below.refl _ _).alloc (Nat.le_refl _) _).grown hgrow (by simp) (fun k hk => by cases hk)
    have HLO : Hid (∀ k, v1.ownBlock = some k → w.heap.size ≤ k) := fun k hk => by
      rcases hlt with h | h
      · rw [h] at hk; cases hk
      · rw [h] at hk; cases hk; first | omega | (simp; omega) | simp
    obtain ⟨l1, hl1⟩ : ∃ l1, l1 = srcL1 c g := ⟨_, rfl⟩
    have HLE : Hid (l1.length ≤ 1) := by unfold Hid; rw [hl1, HL1.out, if_pos g0]; exact Nat.le_refl _
    have HO9 : Hid (X9.ownsRow 0 39 2 v1 l1.length (flat l1)) := by unfold Hid; rw [hl1, HL1.out, if_pos g0]; exact hown
    have HSL : Hid (srcL t c g = l1 ++ if g + 1 = t.ng then [((c : Int) - 1, (g : Int))] else []) := by unfold Hid srcL; rw [hl1]
    have hle := HLE.out
    clear hown hgrow hlt hl1
    go_upto_region 3 with fail
    have HM : Hid (Below (w.alloc (.cells #[.int .i64 c, .int .i64 g] 39)).heap.size (w.alloc (.cells #[.int .i64 c, .int .i64 g] 39)) X9.drew) := HB9.out.trans ((Below.refl _ _).drew)
    have HO : Hid (X9.drew.ownsRow 0 39 2 v1 l1.length (flat l1)) := HO9.out
    refine wp_region_held_drew (S := fun X => X.cell? ⟨w.heap.size, 0, none⟩ = some (.int .i64 c) ∧ X.cell? ⟨w.heap.size, 1, none⟩ = some (.int .i64 g)) (by kernel_rfl) (HCE.out _ HM.out) (fun hS => ?_)
    generalize World.drew X9 = X at *
    refine tH 0 (oi := ⟨_, _, _, _, _, _⟩) (v := .pointer (some ⟨w.heap.size, 1, none⟩)) rfl (by kernel_rfl) (by rfl) (fun _ _ _ h => h) hS ?_ ?_
    · rintro W' ⟨s0, s1⟩; go_simp
    try simp only [Act.put, putA, putZ, putS]
    refine tH 1 (oi := ⟨_, _, _, _, _, _⟩) (v := .int .i64 g) rfl (by kernel_rfl) (by rfl) (fun _ _ _ h => h) hS ?_ ?_
    · rintro W' ⟨s0, s1⟩; go_simp
    try simp only [Act.put, putA, putZ, putS]
    refine tH 2 (oi := ⟨_, _, _, _, _, _⟩) (v := .pointer (some ⟨B, 0, none⟩)) rfl (by kernel_rfl) (by rfl) (fun _ _ _ h => h) hS ?_ ?_
    · rintro W' ⟨s0, s1⟩; go_simp
    try simp only [Act.put, putA, putZ, putS]
    refine wpAnyH_ready (rs := [3]) (by kernel_rfl) (by simp) ?_
    refine AllReadyH.cons (o := ⟨some 21, _, _, _, _, _⟩) rfl (fun K hK => ?_) AllReadyH.nil
    go_simp
    refine (HLA.out X HM.out).mono ?_
    rintro _ X0 ⟨rfl, hx0⟩
    (try go_wp2_with fail)
    have HM0 := Lib.hid (below_step HM.out hx0)
    have HOX : Hid (X0.ownsRow 0 39 2 v1 l1.length (flat l1)) := own_fr HO.out (Fr.below hx0 (fun _ => False)) (fun _ _ _ _ _ h => h)
    refine hK.out _ _ (HCE.out _ HM0.out) (fun hS => ?_)
    clear hK K
    try simp only [Act.put, putA, putZ, putS]
    clear hx0
    refine tH 4 (oi := ⟨_, _, _, _, _, _⟩) (v := .bool ((g : Int) == (t.ng : Int) - 1)) rfl (by kernel_rfl) (by rfl) (fun _ _ _ h => h) hS ?_ ?_
    · rintro W' ⟨s0, s1⟩; go_simp
    try simp only [Act.put, putA, putZ, putS]
    refine wpAnyH_done (by kernel_rfl) ?_ _
    cases hgl : decide (g + 1 = t.ng)
    · have hq : ((g : Int) == (t.ng : Int) - 1) = false := by simp at hgl ⊢; omega
      rw [hq]
      go_wp2_with fail
      go_ret
      exact ⟨_, rfl, by rw [HSL.out, if_neg (by simpa using hgl), List.append_nil]; exact HOX.out, HBW.out _ HM0.out⟩
    · have hq : ((g : Int) == (t.ng : Int) - 1) = true := by simp at hgl ⊢; omega
      rw [hq]
      obtain ⟨va, vc, rfl⟩ := own_slice' HOX.out
      go_wp2_with (at_builtin; refine wpList_append_src _ rfl (.tmp 23) (.tmp 30) 63 rfl 0 39 i0 (.agg #[.int .i64 0, .int .i64 0]) 2 16 Try.underlying63 hi0 hz0 hz1 hz2 rfl (by decide) (.slice va l1.length vc) l1.length (flat l1) rfl (World.ownsRow.alloc HOX.out _) (some ⟨X0.heap.size, 0, none⟩) 1 1 (flat [((c : Int) - 1, (g : Int))]) rfl ⟨rfl, fun j u hu => ⟨_, rfl, World.news_of_block (heap_alloc_new X0 (.cells #[.int .i64 ((c : Int) - 1), .int .i64 (g : Int)] 39)) j u hu⟩⟩ (flat_one _) ?a1 ?a2 (Nat.zero_le _) ?_)
      case a1 => unfold maxLen; omega
      case a2 => omega
      intro v2 X8 hown hgrow hlt
      have HOZ := Lib.hid hown
      have HBZ : Hid (Below w.heap.size w X8) := by
        have h1 := (HBW.out _ HM0.out)
        exact (h1.alloc h1.size _).grown hgrow (by simp; have := h1.size; omega) (fun k hk => HLO.out k hk)
      clear hown hgrow hlt
      go_wp2
      go_ret
      exact ⟨_, rfl, by rw [HSL.out, if_pos (by simpa using hgl), flat_append, List.length_append]; exact HOZ.out, HBZ.out⟩
  · have HLO : Hid (∀ k, (Value.slice none 0 0).ownBlock = some k → w.heap.size ≤ k) := fun k hk => by cases hk
    have HSL : Hid (srcL t c g = [] ++ if g + 1 = t.ng then [((c : Int) - 1, (g : Int))] else []) := by unfold Hid srcL; rw [HL1.out, if_neg g0]
    go_upto_region 3 with fail
    have HM : Hid (Below (w.alloc (.cells #[.int .i64 c, .int .i64 g] 39)).heap.size (w.alloc (.cells #[.int .i64 c, .int .i64 g] 39)) (w.alloc (.cells #[.int .i64 c, .int .i64 g] 39)).drew) := (Below.refl _ _).drew
    have HO : Hid ((w.alloc (.cells #[.int .i64 c, .int .i64 g] 39)).drew.ownsRow 0 39 2 (.slice none 0 0) ([] : List (Int × Int)).length (flat [])) := World.ownsRow_nil _ _ _ _
    refine wp_region_held_drew (S := fun X => X.cell? ⟨w.heap.size, 0, none⟩ = some (.int .i64 c) ∧ X.cell? ⟨w.heap.size, 1, none⟩ = some (.int .i64 g)) (by kernel_rfl) (HCE.out _ HM.out) (fun hS => ?_)
    generalize World.drew (w.alloc (.cells #[.int .i64 c, .int .i64 g] 39)) = X at *
    refine tH 0 (oi := ⟨_, _, _, _, _, _⟩) (v := .pointer (some ⟨w.heap.size, 1, none⟩)) rfl (by kernel_rfl) (by rfl) (fun _ _ _ h => h) hS ?_ ?_
    · rintro W' ⟨s0, s1⟩; go_simp
    try simp only [Act.put, putA, putZ, putS]
    refine tH 1 (oi := ⟨_, _, _, _, _, _⟩) (v := .int .i64 g) rfl (by kernel_rfl) (by rfl) (fun _ _ _ h => h) hS ?_ ?_
    · rintro W' ⟨s0, s1⟩; go_simp
    try simp only [Act.put, putA, putZ, putS]
    refine tH 2 (oi := ⟨_, _, _, _, _, _⟩) (v := .pointer (some ⟨B, 0, none⟩)) rfl (by kernel_rfl) (by rfl) (fun _ _ _ h => h) hS ?_ ?_
    · rintro W' ⟨s0, s1⟩; go_simp
    try simp only [Act.put, putA, putZ, putS]
    refine wpAnyH_ready (rs := [3]) (by kernel_rfl) (by simp) ?_
    refine AllReadyH.cons (o := ⟨some 21, _, _, _, _, _⟩) rfl (fun K hK => ?_) AllReadyH.nil
    go_simp
    refine (HLA.out X HM.out).mono ?_
    rintro _ X1 ⟨rfl, hx1⟩
    (try go_wp2_with fail)
    have HM1 := Lib.hid (below_step HM.out hx1)
    have HOX : Hid (X1.ownsRow 0 39 2 (.slice none 0 0) ([] : List (Int × Int)).length (flat [])) := own_fr HO.out (Fr.below hx1 (fun _ => False)) (fun _ _ _ _ _ h => h)
    refine hK.out _ _ (HCE.out _ HM1.out) (fun hS => ?_)
    clear hK K
    try simp only [Act.put, putA, putZ, putS]
    clear hx1
    refine tH 4 (oi := ⟨_, _, _, _, _, _⟩) (v := .bool ((g : Int) == (t.ng : Int) - 1)) rfl (by kernel_rfl) (by rfl) (fun _ _ _ h => h) hS ?_ ?_
    · rintro W' ⟨s0, s1⟩; go_simp
    try simp only [Act.put, putA, putZ, putS]
    refine wpAnyH_done (by kernel_rfl) ?_ _
    cases hgl : decide (g + 1 = t.ng)
    · have hq : ((g : Int) == (t.ng : Int) - 1) = false := by simp at hgl ⊢; omega
      rw [hq]
      go_wp2_with fail
      go_ret
      exact ⟨_, rfl, by rw [HSL.out, if_neg (by simpa using hgl), List.append_nil]; exact HOX.out, HBW.out _ HM1.out⟩
    · have hq : ((g : Int) == (t.ng : Int) - 1) = true := by simp at hgl ⊢; omega
      rw [hq]
      go_wp2_with (at_builtin; refine wpList_append_src _ rfl (.tmp 23) (.tmp 30) 63 rfl 0 39 i0 (.agg #[.int .i64 0, .int .i64 0]) 2 16 Try.underlying63 hi0 hz0 hz1 hz2 rfl (by decide) (.slice none 0 0) 0 [] rfl (World.ownsRow.alloc HOX.out _) (some ⟨X1.heap.size, 0, none⟩) 1 1 (flat [((c : Int) - 1, (g : Int))]) rfl ⟨rfl, fun j u hu => ⟨_, rfl, World.news_of_block (heap_alloc_new X1 (.cells #[.int .i64 ((c : Int) - 1), .int .i64 (g : Int)] 39)) j u hu⟩⟩ (flat_one _) ?a1 ?a2 (Nat.zero_le _) ?_)
      case a1 => unfold maxLen; omega
      case a2 => omega
      intro v2 X8 hown hgrow hlt
      have HOZ := Lib.hid hown
      have HBZ : Hid (Below w.heap.size w X8) := by
        have h1 := (HBW.out _ HM1.out)
        exact (h1.alloc h1.size _).grown hgrow (by simp; have := h1.size; omega) (fun k hk => HLO.out k hk)
      clear hown hgrow hlt
      go_wp2
      go_ret
      exact ⟨_, rfl, by rw [HSL.out, if_pos (by simpa using hgl), flat_append, List.length_append]; exact HOZ.out, HBZ.out⟩
end Go.Proofs.Ytjaoflfophcibaa

namespace Go.Proofs.Ytjaoflfophcibaa
open Go.RowKit Go.Shelf Go.Maps

theorem cell_ne {W : World} {b o bm : Nat} {v : Value} {es : Array MapEntry} {k : Nat} (hc : W.cell? ⟨b, o, none⟩ = some v) (hm : W.heap[bm]? = some (.map es k)) : b ≠ bm := by
  rintro rfl
  simp [World.cell?, hm] at hc
theorem Fr.cell {ex : Nat → Prop} {W W' : World} (hf : Fr ex W W') {b o : Nat} {v : Value} (hc : W.cell? ⟨b, o, none⟩ = some v) (hne : ¬ ex b) : W'.cell? ⟨b, o, none⟩ = some v := by
  have hb := World.block_lt_of_cell? W ⟨b, o, none⟩ hc
  have := hf.block b hb hne
  simp only [World.cell?] at hc ⊢
  rw [this]; exact hc
/-- The block bm is a map. -/
def IsMp (W : World) (bm : Nat) : Prop := ∃ es k, W.heap[bm]? = some (.map es k)
theorem CM.mp {W : World} {F : Int → Int → R2} {bm n : Nat} (h : CM W F bm n) : IsMp W bm := by
  obtain ⟨D, _, es, clock, hb, _⟩ := h
  exact ⟨es, clock, hb⟩
theorem RsAt.fr {W W' : World} {bm n : Nat} {v : Value} {R : Nat → R2} (h : RsAt W v n R) (hf : Fr (fun q => q = bm) W W') (hm : IsMp W bm) : RsAt W' v n R := by
  obtain ⟨es, k, hm⟩ := hm
  rcases h with h | ⟨b, off, cap, rfl, hb, hz⟩
  · exact .inl h
  · refine .inr ⟨b, off, cap, rfl, Nat.lt_of_lt_of_le hb hf.size, fun j hj => ?_⟩
    obtain ⟨h0, h1⟩ := hz j hj
    exact ⟨hf.cell h0 (cell_ne h0 hm), hf.cell h1 (cell_ne h1 hm)⟩
theorem RowsAt.fr {W W' : World} {bm n : Nat} {v : Value} {rl : Nat → Nat} {ct : Nat → Nat → R2} (h : RowsAt W v n rl ct) (hf : Fr (fun q => q = bm) W W') (hm : IsMp W bm) : RowsAt W' v n rl ct := by
  have hm' := hm
  obtain ⟨es, k, hm⟩ := hm
  rcases h with h | ⟨b, off, cap, rfl, hb, hz⟩
  · exact .inl h
  · refine .inr ⟨b, off, cap, rfl, Nat.lt_of_lt_of_le hb hf.size, fun j hj => ?_⟩
    obtain ⟨rv, h0, h1⟩ := hz j hj
    exact ⟨rv, hf.cell h0 (cell_ne h0 hm), h1.fr hf hm'⟩
theorem WL.fr {W W' : World} {bm : Nat} {x : WV} {t : Tb} (h : WL W x t) (hf : Fr (fun q => q = bm) W W') (hm : IsMp W bm) : WL W' x t := ⟨h.1.fr hf hm, h.2.1.fr hf hm, h.2.2.1.fr hf hm, h.2.2.2.fr hf hm⟩
/-- What the memo says of a cell. -/
def Tb.memo (t : Tb) (out : Nat → Nat → Bool) (c g : Int) : R2 := t.before out c.toNat g.toNat
/-- A table at work, with at most n cells in its memo. -/
structure St (W : World) (B bm n : Nat) (x : WV) (t : Tb) (out : Nat → Nat → Bool) : Prop where
  wb : WB W B x t out bm
  wl : WL W x t
  cm : CM W (t.memo out) bm n
theorem St.ne {W : World} {B bm n : Nat} {x : WV} {t : Tb} {out : Nat → Nat → Bool} (h : St W B bm n x t out) : B ≠ bm := by
  obtain ⟨es, k, hm⟩ := h.cm.mp
  rintro rfl
  have := h.wb
  unfold WB at this
  rw [hm] at this
  cases this
theorem St.below {W W' : World} {B bm n : Nat} {x : WV} {t : Tb} {out : Nat → Nat → Bool} (h : St W B bm n x t out) (hb : Below W.heap.size W W') : St W' B bm n x t out := ⟨h.wb.below hb, h.wl.below hb, h.cm.below hb⟩
theorem St.mono {W : World} {B bm n n' : Nat} {x : WV} {t : Tb} {out : Nat → Nat → Bool} (h : St W B bm n x t out) (hn : n ≤ n') : St W B bm n' x t out := ⟨h.wb, h.wl, h.cm.mono hn⟩
/-- Behind a store into a block that is new since W. -/
theorem St.set {W' : World} {B bm n : Nat} {x : WV} {t : Tb} {out : Nat → Nat → Bool} (h : St W' B bm n x t out) {b o : Nat} (u : Value) (hB : b ≠ B) (hm : b ≠ bm) (hl : WL (W'.setCell ⟨b, o, none⟩ u) x t) : St (W'.setCell ⟨b, o, none⟩ u) B bm n x t out :=
  ⟨((Fr.set W' b o u).block _ (Array.getElem?_eq_some_iff.1 h.wb).1 (fun e => hB e.symm)).trans h.wb, hl, h.cm.setCell hm u⟩
theorem Fr.wl {ex : Nat → Prop} {A W W' : World} {x : WV} {t : Tb} (h : WL A x t) (h1 : Below A.heap.size A W) (hf : Fr ex W W') (hx : ∀ k, ex k → A.heap.size ≤ k) : WL W' x t :=
  h.below (h1.trans (hf.low h1.size (fun k hk e => by have := hx k e; omega)))
/-- How many cells a call of before may add to the memo. -/
def memoN : Nat → Nat
  | 0 => 1
  | c + 1 => 1 + 4 * memoN c
/-- The answer of a call: a range, the state, and the frame. -/
def GivesR (w : World) (B bm n : Nat) (x : WV) (t : Tb) (out : Nat → Nat → Bool) (r : R2) (e : Ending) (w' : World) : Prop :=
  e = .returned (.agg #[.int .i64 r.1, .int .i64 r.2]) ∧ St w' B bm n x t out ∧ Fr (fun q => q = bm) w w'
end Go.Proofs.Ytjaoflfophcibaa

namespace Go.Proofs.Ytjaoflfophcibaa
open Go.RowKit Go.Shelf

/-- Behind a store into a block of the call's own. -/
theorem St.setN {w X : World} {B bm n0 n : Nat} {x : WV} {t : Tb} {out : Nat → Nat → Bool} (h0 : St w B bm n0 x t out) (h : St X B bm n x t out) (hf : Fr (fun q => q = bm) w X) {b : Nat} (hb : w.heap.size ≤ b) (o : Nat) (u : Value) :
    St (X.setCell ⟨b, o, none⟩ u) B bm n x t out ∧ Fr (fun q => q = bm) w (X.setCell ⟨b, o, none⟩ u) := by
  have hB : B < w.heap.size := (Array.getElem?_eq_some_iff.1 h0.wb).1
  have hm : bm < w.heap.size := h0.cm.lt
  have hf' : Fr (fun q => q = bm) w (X.setCell ⟨b, o, none⟩ u) := ⟨hf.os, hf.tape, hf.output, by have := hf.size; simpa using this, fun q hq he => ((Fr.set X b o u).block q (Nat.lt_of_lt_of_le hq hf.size) (by omega)).trans (hf.block q hq he)⟩
  exact ⟨h.set u (by omega) (by omega) (h0.wl.fr hf' h0.cm.mp), hf'⟩
attribute [local go_sem ↓] Go.wp_at_zero Go.wp_at_succ
set_option maxRecDepth 100000 in
set_option maxHeartbeats 4000000 in
theorem up_of (B bm n n' : Nat) (x : WV) (t : Tb) (out : Nat → Nat → Bool) (c g : Nat) (hs : t.small) (hc : c < t.nc) (hc4 : c < 4) (hg : g < t.rl c) (hg4 : g < 4)
    (hbf : ∀ W, St W B bm n x t out → Calls Try.prog 99 #[.pointer (some ⟨B, 0, none⟩), .agg #[.int .i64 c, .int .i64 g]] W (GivesR W B bm n' x t out (t.before out c g))) (w : World) (hst : St w B bm n x t out) :
    Calls Try.prog 61 #[.pointer (some ⟨B, 0, none⟩), .agg #[.int .i64 c, .int .i64 g]] w (GivesR w B bm n' x t out (t.up out c g)) := by
  have hB : B < w.heap.size := (Array.getElem?_eq_some_iff.1 hst.wb).1
  have hbm : bm < w.heap.size := hst.cm.lt
  have HOW := Lib.hid (fun W (h : St W B bm n' x t out) => own_any B bm x t out c g W h.wb h.wl hs hc hc4 hg hg4)
  have HBF := Lib.hid hbf
  have HV : Hid (t.up out c g = meetR (t.before out c g) (t.own out c g)) := rfl
  unfold meetR at HV
  unfold GivesR at HBF ⊢
  clear hbf
  generalize t.up out c g = u at *
  generalize (t.before out c g) = bf at *
  generalize (t.own out c g) = ow at *
  obtain ⟨a, b⟩ := bf
  obtain ⟨a', b'⟩ := ow
  have HSW := Lib.hid hst
  have HF0 : Hid (Fr (fun q => q = bm) w (World.drew ((w.alloc (.cells #[.int .i64 c, .int .i64 g] 39)).alloc (.cells #[.int .i64 0, .int .i64 0] 29)))) := Fr.below (((below_alloc _ _).alloc (by simp) _).drew) _
  have HSX : Hid (St (World.drew ((w.alloc (.cells #[.int .i64 c, .int .i64 g] 39)).alloc (.cells #[.int .i64 0, .int .i64 0] 29))) B bm n x t out) := hst.below (((below_alloc _ _).alloc (by simp) _).drew)
  have HK : Hid ((World.drew ((w.alloc (.cells #[.int .i64 c, .int .i64 g] 39)).alloc (.cells #[.int .i64 0, .int .i64 0] 29))).heap[w.heap.size]? = some (.cells #[.int .i64 c, .int .i64 g] 39 (0, 0))) := (Below.heap_alloc (w.alloc (.cells #[.int .i64 c, .int .i64 g] 39)) _ _ (by simp)).trans (heap_alloc_new w (.cells #[.int .i64 c, .int .i64 g] 39))
  have HO : Hid ((World.drew ((w.alloc (.cells #[.int .i64 c, .int .i64 g] 39)).alloc (.cells #[.int .i64 0, .int .i64 0] 29))).heap[w.heap.size + 1]? = some (.cells #[.int .i64 0, .int .i64 0] 29 (0, 0))) := by
    have h := heap_alloc_new (w.alloc (.cells #[.int .i64 c, .int .i64 g] 39)) (.cells #[.int .i64 0, .int .i64 0] 29)
    simp only [World.size_alloc] at h
    exact h
  clear hst hs
  go_enter Try.func61, Try.ntmps61
  go_upto_region 1 with fail
  refine wp_region_held_drew (S := fun X => X.cell? ⟨w.heap.size, 0, none⟩ = some (.int .i64 c) ∧ X.cell? ⟨w.heap.size, 1, none⟩ = some (.int .i64 g)) (by kernel_rfl) ⟨cell_of_row _ _ 0 _ _ _ HK.out, cell_of_row _ _ 1 _ _ _ HK.out⟩ (fun hS => ?_)
  have HM := HF0
  generalize World.drew ((w.alloc (.cells #[.int .i64 c, .int .i64 g] 39)).alloc (.cells #[.int .i64 0, .int .i64 0] 29)) = X at *
  refine tH 0 (oi := ⟨_, _, _, _, _, _⟩) (v := .pointer (some ⟨B, 0, none⟩)) rfl (by kernel_rfl) (by rfl) (fun _ _ _ h => h) hS ?_ ?_
  · rintro W' ⟨s0, s1⟩; go_simp
  try simp only [Act.put, putA, putZ, putS]
  refine tH 1 (oi := ⟨_, _, _, _, _, _⟩) (v := .agg #[.int .i64 c, .int .i64 g]) rfl (by kernel_rfl) (by rfl) (fun _ _ _ h => h) hS ?_ ?_
  · rintro W' ⟨s0, s1⟩; go_simp
  try simp only [Act.put, putA, putZ, putS]
  refine tH 3 (oi := ⟨_, _, _, _, _, _⟩) (v := .pointer (some ⟨B, 0, none⟩)) rfl (by kernel_rfl) (by rfl) (fun _ _ _ h => h) hS ?_ ?_
  · rintro W' ⟨s0, s1⟩; go_simp
  try simp only [Act.put, putA, putZ, putS]
  refine tH 4 (oi := ⟨_, _, _, _, _, _⟩) (v := .agg #[.int .i64 c, .int .i64 g]) rfl (by kernel_rfl) (by rfl) (fun _ _ _ h => h) hS ?_ ?_
  · rintro W' ⟨s0, s1⟩; go_simp
  try simp only [Act.put, putA, putZ, putS]
  refine wpAnyH_ready (rs := [2]) (by kernel_rfl) (by simp) ?_
  refine AllReadyH.cons (o := ⟨some 7, _, _, _, _, _⟩) rfl (fun K hK => ?_) AllReadyH.nil
  go_simp
  refine (HBF.out X HSX.out).mono ?_
  rintro _ X0 ⟨rfl, hs0, hf0⟩
  (try go_wp2_with fail)
  have HS0 := Lib.hid (hs0)
  have HM0 : Hid (Fr (fun q => q = bm) w X0) := HM.out.trans (hf0)
  have HK0 : Hid (X0.heap[w.heap.size]? = some (.cells #[.int .i64 c, .int .i64 g] 39 (0, 0))) := ((hf0).block _ (Array.getElem?_eq_some_iff.1 HK.out).1 (show ¬ w.heap.size = bm by omega)).trans HK.out
  have HO0 : Hid (X0.heap[w.heap.size + 1]? = some (.cells #[.int .i64 0, .int .i64 0] 29 (0, 0))) := ((hf0).block _ (Array.getElem?_eq_some_iff.1 HO.out).1 (show ¬ w.heap.size + 1 = bm by omega)).trans HO.out
  refine hK.out _ _ (⟨cell_of_row _ _ 0 _ _ _ HK0.out, cell_of_row _ _ 1 _ _ _ HK0.out⟩) (fun hS => ?_)
  clear hK K
  try simp only [Act.put, putA, putZ, putS]
  clear hf0 hs0
  refine wpAnyH_ready (rs := [5]) (by kernel_rfl) (by simp) ?_
  refine AllReadyH.cons (o := ⟨some 10, _, _, _, _, _⟩) rfl (fun K hK => ?_) AllReadyH.nil
  go_simp
  refine (HOW.out X0 HS0.out).mono ?_
  rintro _ X1 ⟨rfl, hb1⟩
  (try go_wp2_with fail)
  have HS1 := Lib.hid (HS0.out.below hb1)
  have HM1 : Hid (Fr (fun q => q = bm) w X1) := HM0.out.trans (Fr.below hb1 (fun q => q = bm))
  have HK1 : Hid (X1.heap[w.heap.size]? = some (.cells #[.int .i64 c, .int .i64 g] 39 (0, 0))) := ((Fr.below hb1 (fun q => q = bm)).block _ (Array.getElem?_eq_some_iff.1 HK0.out).1 (show ¬ w.heap.size = bm by omega)).trans HK0.out
  have HO1 : Hid (X1.heap[w.heap.size + 1]? = some (.cells #[.int .i64 0, .int .i64 0] 29 (0, 0))) := ((Fr.below hb1 (fun q => q = bm)).block _ (Array.getElem?_eq_some_iff.1 HO0.out).1 (show ¬ w.heap.size + 1 = bm by omega)).trans HO0.out
  refine hK.out _ _ (⟨cell_of_row _ _ 0 _ _ _ HK1.out, cell_of_row _ _ 1 _ _ _ HK1.out⟩) (fun hS => ?_)
  clear hK K
  try simp only [Act.put, putA, putZ, putS]
  clear hb1
  refine wpAnyH_ready (rs := [6]) (by kernel_rfl) (by simp) ?_
  refine AllReadyH.cons (o := ⟨some 11, _, _, _, _, _⟩) rfl (fun K hK => ?_) AllReadyH.nil
  go_simp
  refine (meet_any a b a' b' X1).mono ?_
  rintro _ X2 ⟨rfl, hb2⟩
  (try go_wp2_with fail)
  have HS2 := Lib.hid (HS1.out.below hb2)
  have HM2 : Hid (Fr (fun q => q = bm) w X2) := HM1.out.trans (Fr.below hb2 (fun q => q = bm))
  have HK2 : Hid (X2.heap[w.heap.size]? = some (.cells #[.int .i64 c, .int .i64 g] 39 (0, 0))) := ((Fr.below hb2 (fun q => q = bm)).block _ (Array.getElem?_eq_some_iff.1 HK1.out).1 (show ¬ w.heap.size = bm by omega)).trans HK1.out
  have HO2 : Hid (X2.heap[w.heap.size + 1]? = some (.cells #[.int .i64 0, .int .i64 0] 29 (0, 0))) := ((Fr.below hb2 (fun q => q = bm)).block _ (Array.getElem?_eq_some_iff.1 HO1.out).1 (show ¬ w.heap.size + 1 = bm by omega)).trans HO1.out
  refine hK.out _ _ (⟨cell_of_row _ _ 0 _ _ _ HK2.out, cell_of_row _ _ 1 _ _ _ HK2.out⟩) (fun hS => ?_)
  clear hK K
  try simp only [Act.put, putA, putZ, putS]
  clear hb2
  refine wpAnyH_ready (rs := [7]) (by kernel_rfl) (by simp) ?_
  refine AllReadyH.cons (o := ⟨none, _, _, _, _, _⟩) rfl (fun K hK => ?_) AllReadyH.nil
  have eb := HO2.out
  have e0 := cell_of_row _ _ 0 _ _ _ eb
  have e1 := cell_of_row _ _ 1 _ _ _ eb
  have f0 := frozen_of_row _ _ 0 _ _ eb
  have f1 := frozen_of_row _ _ 1 _ _ eb
  have HN : Hid (((X2.setCell ⟨w.heap.size + 1, 0, none⟩ (.int .i64 (max a a'))).setCell ⟨w.heap.size + 1, 1, none⟩ (.int .i64 (min b b'))).heap[w.heap.size + 1]? = some (.cells #[.int .i64 (max a a'), .int .i64 (min b b')] 29 (0, 0))) := by unfold Hid; simp [World.setCell, Array.getElem?_modify, eb]
  obtain ⟨hs1, hf1⟩ := St.setN HSW.out HS2.out HM2.out (b := w.heap.size + 1) (by omega) 0 (.int .i64 (max a a'))
  obtain ⟨hs2, hf2⟩ := St.setN HSW.out hs1 hf1 (b := w.heap.size + 1) (by omega) 1 (.int .i64 (min b b'))
  have HE := Lib.hid hs2; have HF := Lib.hid hf2; clear hs1 hf1 hs2 hf2
  have HC : Hid ((fun X : World => X.cell? ⟨w.heap.size, 0, none⟩ = some (.int .i64 c) ∧ X.cell? ⟨w.heap.size, 1, none⟩ = some (.int .i64 g)) ((X2.setCell ⟨w.heap.size + 1, 0, none⟩ (.int .i64 (max a a'))).setCell ⟨w.heap.size + 1, 1, none⟩ (.int .i64 (min b b')))) := by
    obtain ⟨s0, s1⟩ := hS
    refine ⟨?_, ?_⟩ <;> (rw [World.cell?_setCell_far, World.cell?_setCell_far] <;> first | assumption | (simp <;> omega))
  clear eb
  go_simp
  refine hK.out _ _ (HC.out) (fun hS => ?_)
  clear hK K
  (try simp only [Act.put])
  clear e0 e1 f0 f1
  refine wpAnyH_done (by kernel_rfl) ?_ _
  go_wp2_with fail
  have e0 := cell_of_row _ _ 0 _ _ _ HN.out
  have e1 := cell_of_row _ _ 1 _ _ _ HN.out
  refine bodyPost_ret (v := .agg #[.int .i64 (max a a'), .int .i64 (min b b')]) (by simp [results, Try.results61, go_sem, e0, e1]) rfl ⟨by rw [HV.out], HE.out, HF.out⟩
end Go.Proofs.Ytjaoflfophcibaa

namespace Go.Proofs.Ytjaoflfophcibaa
open Go.RowKit Go.Shelf

attribute [local go_sem ↓] Go.wp_at_zero Go.wp_at_succ
set_option maxRecDepth 100000 in
set_option maxHeartbeats 4000000 in
theorem survivors_of (B bm n n' : Nat) (x : WV) (t : Tb) (out : Nat → Nat → Bool) (c g : Nat) (hs : t.small) (hg : g + 1 < t.nr) (hr : 0 ≤ (t.r (g + 1)).1 ∧ (t.r (g + 1)).1 ≤ 1000 ∧ 0 ≤ (t.r (g + 1)).2 ∧ (t.r (g + 1)).2 ≤ 1000)
    (hu : 0 ≤ (t.up out c g).1 ∧ (t.up out c g).1 ≤ 1000000000 ∧ 0 ≤ (t.up out c g).2 ∧ (t.up out c g).2 ≤ 1000000000)
    (hbf : ∀ W, St W B bm n x t out → Calls Try.prog 61 #[.pointer (some ⟨B, 0, none⟩), .agg #[.int .i64 c, .int .i64 g]] W (GivesR W B bm n' x t out (t.up out c g))) (w : World) (hst : St w B bm n x t out) :
    Calls Try.prog 96 #[.pointer (some ⟨B, 0, none⟩), .agg #[.int .i64 c, .int .i64 g]] w (GivesR w B bm n' x t out (livingR (t.r (g + 1)) (t.up out c g))) := by
  have hB : B < w.heap.size := (Array.getElem?_eq_some_iff.1 hst.wb).1
  have hbm : bm < w.heap.size := hst.cm.lt
  have HBF := Lib.hid hbf
  obtain ⟨hq0, hq1, hq2, hq3⟩ := hr
  obtain ⟨hu0, hu1, hu2, hu3⟩ := hu
  obtain ⟨rb, ro, e1, hrb, _, _⟩ := hst.wl.2.2.1.at hg
  have hnr := hs.2.2.2.1
  obtain ⟨ra0, hra0⟩ : ∃ v, v = (t.r (g + 1)).1 := ⟨_, rfl⟩
  obtain ⟨ra1, hra1⟩ : ∃ v, v = (t.r (g + 1)).2 := ⟨_, rfl⟩
  rw [← hra0] at hq0 hq1
  rw [← hra1] at hq2 hq3
  have HCE : Hid (∀ (X : World) (m : Nat), St X B bm m x t out → X.cell? ⟨B, 2, none⟩ = some (.slice (some ⟨rb, ro, none⟩) t.nr x.rc) ∧ X.cell? ⟨rb, ro + (g + 1) * 2, none⟩ = some (.int .i64 ra0) ∧ X.cell? ⟨rb, ro + (g + 1) * 2 + 1, none⟩ = some (.int .i64 ra1)) := fun X m h => by
    obtain ⟨_, _, k2, _⟩ := h.wb.cells
    obtain ⟨rb', ro', e2, _, k3, k4⟩ := h.wl.2.2.1.at hg
    rw [e1] at e2
    cases e2
    rw [hra0, hra1]
    unfold WV.rv at k2
    rw [e1] at k2
    exact ⟨k2, k3, k4⟩
  have HV : Hid (livingR (t.r (g + 1)) (t.up out c g) = (fewestR (ra0, ra1) (t.up out c g).1, mostR (ra0, ra1) (t.up out c g).2)) := by
    unfold Hid livingR; rw [hra0, hra1]
  unfold GivesR at HBF ⊢
  clear hbf e1 hra0 hra1
  generalize livingR (t.r (g + 1)) (t.up out c g) = u at *
  generalize t.up out c g = uu at *
  obtain ⟨a, b⟩ := uu
  simp only at hu0 hu1 hu2 hu3
  have HSW := Lib.hid hst
  have hg0 : (0 : Int) ≤ (g : Int) + 1 := by omega
  have hg1 : (g : Int) + 1 < (t.nr : Int) := by omega
  have htn : ((g : Int) + 1).toNat = g + 1 := by omega
  have wge : IntKind.i64.wrap ((g : Int) + 1) = (g : Int) + 1 := IntWalk.i64_in _ (by omega)
  generalize x.rc = rc at *
  generalize t.nr = nr at *
  have HF0 : Hid (Fr (fun q => q = bm) w (World.drew ((w.alloc (.cells #[.int .i64 c, .int .i64 g] 39)).alloc (.cells #[.int .i64 0, .int .i64 0] 29)))) := Fr.below (((below_alloc _ _).alloc (by simp) _).drew) _
  have HSX : Hid (St (World.drew ((w.alloc (.cells #[.int .i64 c, .int .i64 g] 39)).alloc (.cells #[.int .i64 0, .int .i64 0] 29))) B bm n x t out) := hst.below (((below_alloc _ _).alloc (by simp) _).drew)
  have HK : Hid ((World.drew ((w.alloc (.cells #[.int .i64 c, .int .i64 g] 39)).alloc (.cells #[.int .i64 0, .int .i64 0] 29))).heap[w.heap.size]? = some (.cells #[.int .i64 c, .int .i64 g] 39 (0, 0))) := (Below.heap_alloc (w.alloc (.cells #[.int .i64 c, .int .i64 g] 39)) _ _ (by simp)).trans (heap_alloc_new w (.cells #[.int .i64 c, .int .i64 g] 39))
  have HO : Hid ((World.drew ((w.alloc (.cells #[.int .i64 c, .int .i64 g] 39)).alloc (.cells #[.int .i64 0, .int .i64 0] 29))).heap[w.heap.size + 1]? = some (.cells #[.int .i64 0, .int .i64 0] 29 (0, 0))) := by
    have h := heap_alloc_new (w.alloc (.cells #[.int .i64 c, .int .i64 g] 39)) (.cells #[.int .i64 0, .int .i64 0] 29)
    simp only [World.size_alloc] at h
    exact h
  clear hst hs
  go_enter Try.func96, Try.ntmps96
  go_upto_region 1 with fail
  refine wp_region_held_drew (S := fun X => X.cell? ⟨w.heap.size, 0, none⟩ = some (.int .i64 c) ∧ X.cell? ⟨w.heap.size, 1, none⟩ = some (.int .i64 g) ∧ X.cell? ⟨B, 2, none⟩ = some (.slice (some ⟨rb, ro, none⟩) nr rc) ∧ X.cell? ⟨rb, ro + (g + 1) * 2, none⟩ = some (.int .i64 ra0) ∧ X.cell? ⟨rb, ro + (g + 1) * 2 + 1, none⟩ = some (.int .i64 ra1)) (by kernel_rfl) ⟨cell_of_row _ _ 0 _ _ _ HK.out, cell_of_row _ _ 1 _ _ _ HK.out, HCE.out _ _ HSX.out⟩ (fun hS => ?_)
  have HM := HF0
  generalize World.drew ((w.alloc (.cells #[.int .i64 c, .int .i64 g] 39)).alloc (.cells #[.int .i64 0, .int .i64 0] 29)) = X at *
  refine tH 0 (oi := ⟨_, _, _, _, _, _⟩) (v := .pointer (some ⟨B, 0, none⟩)) rfl (by kernel_rfl) (by rfl) (fun _ _ _ h => h) hS ?_ ?_
  · rintro W' ⟨s0, s1, s2, s3, s4⟩; go_simp
  try simp only [Act.put, putA, putZ, putS]
  refine tH 1 (oi := ⟨_, _, _, _, _, _⟩) (v := .pointer (some ⟨B, 0, none⟩)) rfl (by kernel_rfl) (by rfl) (fun _ _ _ h => h) hS ?_ ?_
  · rintro W' ⟨s0, s1, s2, s3, s4⟩; go_simp
  try simp only [Act.put, putA, putZ, putS]
  refine tH 2 (oi := ⟨_, _, _, _, _, _⟩) (v := .pointer (some ⟨B, 0, none⟩)) rfl (by kernel_rfl) (by rfl) (fun _ _ _ h => h) hS ?_ ?_
  · rintro W' ⟨s0, s1, s2, s3, s4⟩; go_simp
  try simp only [Act.put, putA, putZ, putS]
  refine tH 3 (oi := ⟨_, _, _, _, _, _⟩) (v := .pointer (some ⟨B, 2, none⟩)) rfl (by kernel_rfl) (by rfl) (fun _ _ _ h => h) hS ?_ ?_
  · rintro W' ⟨s0, s1, s2, s3, s4⟩; go_simp
  try simp only [Act.put, putA, putZ, putS]
  refine tH 4 (oi := ⟨_, _, _, _, _, _⟩) (v := .slice (some ⟨rb, ro, none⟩) nr rc) rfl (by kernel_rfl) (by rfl) (fun _ _ _ h => h) hS ?_ ?_
  · rintro W' ⟨s0, s1, s2, s3, s4⟩; go_simp
  try simp only [Act.put, putA, putZ, putS]
  refine tH 5 (oi := ⟨_, _, _, _, _, _⟩) (v := .pointer (some ⟨w.heap.size, 1, none⟩)) rfl (by kernel_rfl) (by rfl) (fun _ _ _ h => h) hS ?_ ?_
  · rintro W' ⟨s0, s1, s2, s3, s4⟩; go_simp
  try simp only [Act.put, putA, putZ, putS]
  refine tH 6 (oi := ⟨_, _, _, _, _, _⟩) (v := .int .i64 g) rfl (by kernel_rfl) (by rfl) (fun _ _ _ h => h) hS ?_ ?_
  · rintro W' ⟨s0, s1, s2, s3, s4⟩; go_simp
  try simp only [Act.put, putA, putZ, putS]
  refine tH 7 (oi := ⟨_, _, _, _, _, _⟩) (v := .int .i64 ((g : Int) + 1)) rfl (by kernel_rfl) (by rfl) (fun _ _ _ h => h) hS ?_ ?_
  · rintro W' ⟨s0, s1, s2, s3, s4⟩; go_simp
  try simp only [Act.put, putA, putZ, putS]
  refine tH 8 (oi := ⟨_, _, _, _, _, _⟩) (v := .pointer (some ⟨rb, ro + (g + 1) * 2, none⟩)) rfl (by kernel_rfl) (by rfl) (fun _ _ _ h => h) hS ?_ ?_
  · rintro W' ⟨s0, s1, s2, s3, s4⟩; go_simp
  try simp only [Act.put, putA, putZ, putS]
  refine tH 9 (oi := ⟨_, _, _, _, _, _⟩) (v := .agg #[.int .i64 ra0, .int .i64 ra1]) rfl (by kernel_rfl) (by rfl) (fun _ _ _ h => h) hS ?_ ?_
  · rintro W' ⟨s0, s1, s2, s3, s4⟩; go_simp
  try simp only [Act.put, putA, putZ, putS]
  refine tH 10 (oi := ⟨_, _, _, _, _, _⟩) (v := .pointer (some ⟨B, 0, none⟩)) rfl (by kernel_rfl) (by rfl) (fun _ _ _ h => h) hS ?_ ?_
  · rintro W' ⟨s0, s1, s2, s3, s4⟩; go_simp
  try simp only [Act.put, putA, putZ, putS]
  refine tH 11 (oi := ⟨_, _, _, _, _, _⟩) (v := .agg #[.int .i64 c, .int .i64 g]) rfl (by kernel_rfl) (by rfl) (fun _ _ _ h => h) hS ?_ ?_
  · rintro W' ⟨s0, s1, s2, s3, s4⟩; go_simp
  try simp only [Act.put, putA, putZ, putS]
  refine wpAnyH_ready (rs := [12]) (by kernel_rfl) (by simp) ?_
  refine AllReadyH.cons (o := ⟨some 17, _, _, _, _, _⟩) rfl (fun K hK => ?_) AllReadyH.nil
  go_simp
  refine (HBF.out X HSX.out).mono ?_
  rintro _ X0 ⟨rfl, hs0, hf0⟩
  (try go_wp2_with fail)
  have HS0 := Lib.hid (hs0)
  have HM0 : Hid (Fr (fun q => q = bm) w X0) := HM.out.trans (hf0)
  have HK0 : Hid (X0.heap[w.heap.size]? = some (.cells #[.int .i64 c, .int .i64 g] 39 (0, 0))) := ((hf0).block _ (Array.getElem?_eq_some_iff.1 HK.out).1 (show ¬ w.heap.size = bm by omega)).trans HK.out
  have HO0 : Hid (X0.heap[w.heap.size + 1]? = some (.cells #[.int .i64 0, .int .i64 0] 29 (0, 0))) := ((hf0).block _ (Array.getElem?_eq_some_iff.1 HO.out).1 (show ¬ w.heap.size + 1 = bm by omega)).trans HO.out
  refine hK.out _ _ (⟨cell_of_row _ _ 0 _ _ _ HK0.out, cell_of_row _ _ 1 _ _ _ HK0.out, HCE.out _ _ HS0.out⟩) (fun hS => ?_)
  clear hK K
  try simp only [Act.put, putA, putZ, putS]
  clear hf0 hs0
  refine wpAnyH_ready (rs := [13]) (by kernel_rfl) (by simp) ?_
  refine AllReadyH.cons (o := ⟨some 18, _, _, _, _, _⟩) rfl (fun K hK => ?_) AllReadyH.nil
  go_simp
  refine (living_any ra0 ra1 a b X0 hq0 hq1 hq2 hq3 hu0 hu1 hu2 hu3).mono ?_
  rintro _ X1 ⟨rfl, hb1⟩
  (try go_wp2_with fail)
  have HS1 := Lib.hid (HS0.out.below hb1)
  have HM1 : Hid (Fr (fun q => q = bm) w X1) := HM0.out.trans (Fr.below hb1 (fun q => q = bm))
  have HK1 : Hid (X1.heap[w.heap.size]? = some (.cells #[.int .i64 c, .int .i64 g] 39 (0, 0))) := ((Fr.below hb1 (fun q => q = bm)).block _ (Array.getElem?_eq_some_iff.1 HK0.out).1 (show ¬ w.heap.size = bm by omega)).trans HK0.out
  have HO1 : Hid (X1.heap[w.heap.size + 1]? = some (.cells #[.int .i64 0, .int .i64 0] 29 (0, 0))) := ((Fr.below hb1 (fun q => q = bm)).block _ (Array.getElem?_eq_some_iff.1 HO0.out).1 (show ¬ w.heap.size + 1 = bm by omega)).trans HO0.out
  refine hK.out _ _ (⟨cell_of_row _ _ 0 _ _ _ HK1.out, cell_of_row _ _ 1 _ _ _ HK1.out, HCE.out _ _ HS1.out⟩) (fun hS => ?_)
  clear hK K
  try simp only [Act.put, putA, putZ, putS]
  clear hb1
  refine wpAnyH_ready (rs := [14]) (by kernel_rfl) (by simp) ?_
  refine AllReadyH.cons (o := ⟨none, _, _, _, _, _⟩) rfl (fun K hK => ?_) AllReadyH.nil
  have eb := HO1.out
  have e0 := cell_of_row _ _ 0 _ _ _ eb
  have e1 := cell_of_row _ _ 1 _ _ _ eb
  have f0 := frozen_of_row _ _ 0 _ _ eb
  have f1 := frozen_of_row _ _ 1 _ _ eb
  have HN : Hid (((X1.setCell ⟨w.heap.size + 1, 0, none⟩ (.int .i64 (fewestR (ra0, ra1) a))).setCell ⟨w.heap.size + 1, 1, none⟩ (.int .i64 (mostR (ra0, ra1) b))).heap[w.heap.size + 1]? = some (.cells #[.int .i64 (fewestR (ra0, ra1) a), .int .i64 (mostR (ra0, ra1) b)] 29 (0, 0))) := by unfold Hid; simp [World.setCell, Array.getElem?_modify, eb]
  obtain ⟨hs1, hf1⟩ := St.setN HSW.out HS1.out HM1.out (b := w.heap.size + 1) (by omega) 0 (.int .i64 (fewestR (ra0, ra1) a))
  obtain ⟨hs2, hf2⟩ := St.setN HSW.out hs1 hf1 (b := w.heap.size + 1) (by omega) 1 (.int .i64 (mostR (ra0, ra1) b))
  have HE := Lib.hid hs2; have HF := Lib.hid hf2; clear hs1 hf1 hs2 hf2
  have HC : Hid ((fun X : World => X.cell? ⟨w.heap.size, 0, none⟩ = some (.int .i64 c) ∧ X.cell? ⟨w.heap.size, 1, none⟩ = some (.int .i64 g) ∧ X.cell? ⟨B, 2, none⟩ = some (.slice (some ⟨rb, ro, none⟩) nr rc) ∧ X.cell? ⟨rb, ro + (g + 1) * 2, none⟩ = some (.int .i64 ra0) ∧ X.cell? ⟨rb, ro + (g + 1) * 2 + 1, none⟩ = some (.int .i64 ra1)) ((X1.setCell ⟨w.heap.size + 1, 0, none⟩ (.int .i64 (fewestR (ra0, ra1) a))).setCell ⟨w.heap.size + 1, 1, none⟩ (.int .i64 (mostR (ra0, ra1) b)))) := by
    obtain ⟨s0, s1, s2, s3, s4⟩ := hS
    refine ⟨?_, ?_, ?_, ?_, ?_⟩ <;> (rw [World.cell?_setCell_far, World.cell?_setCell_far] <;> first | assumption | (simp <;> omega))
  clear eb
  go_simp
  refine hK.out _ _ (HC.out) (fun hS => ?_)
  clear hK K
  (try simp only [Act.put])
  clear e0 e1 f0 f1
  refine wpAnyH_done (by kernel_rfl) ?_ _
  go_wp2_with fail
  have e0 := cell_of_row _ _ 0 _ _ _ HN.out
  have e1 := cell_of_row _ _ 1 _ _ _ HN.out
  refine bodyPost_ret (v := .agg #[.int .i64 (fewestR (ra0, ra1) a), .int .i64 (mostR (ra0, ra1) b)]) (by simp [results, Try.results96, go_sem, e0, e1]) rfl ⟨by rw [HV.out], HE.out, HF.out⟩
end Go.Proofs.Ytjaoflfophcibaa
