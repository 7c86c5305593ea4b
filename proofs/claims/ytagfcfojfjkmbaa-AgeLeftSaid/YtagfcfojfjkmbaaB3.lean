/- years: the iterator over the true ages of a record, the greatest first. -/
import Derived.Test.YtagfcfojfjkmbaaB2
namespace Go.Proofs.Ytagfcfojfjkmbaa
open Go.RowKit Go.Shelf

set_option maxHeartbeats 1000000 in
theorem years_any (lo hi day rule num : Int) (rv cv : Value) (w : World) :
    Calls Try.prog 94 #[.agg #[.int .i64 lo, .int .i64 hi, rv, cv], .agg #[.int .i64 day, .int .i64 rule, .int .i64 num]] w fun e w' => e = .returned (.func (.func 105) #[] #[.pointer (some ⟨w.heap.size, 0, none⟩), .pointer (some ⟨w.heap.size + 1, 0, none⟩)]) ∧ w' = (w.alloc (.cells #[.int .i64 lo, .int .i64 hi, rv, cv] 45)).alloc (.cells #[.int .i64 day, .int .i64 rule, .int .i64 num] 109) := by
  go_enter Try.func94, Try.ntmps94
  go_wp2
  go_ret
  exact ⟨rfl, rfl⟩

def encY (x : BR) : Array Value := #[.agg #[.int .i64 x.1.1, .int .i64 x.1.2]]

theorem YieldAt.wide {n m : Nat} {P : Program} {l : Nat} {args : Array Value} {W : World} {R : Ending → World → Prop} (h : YieldAt Fence.wide n P l args W R) : YieldAt Fence.wide m P l args W R := by
  obtain ⟨fn, tmps, assign, body, hy, hR⟩ := h
  exact ⟨fn, tmps, assign, body, hy, hR.1, fun c cs _ => hR.2 c cs (room_wide _)⟩

theorem OwnFrom.abides {β : Type} {B : Nat} {J : β → World → Prop} (h : OwnFrom B J) : AbidesFrom B J := fun s W W' row hs hg hr =>
  h s W W' row hs hg (fun r e => by obtain ⟨h1, o, ho, hw⟩ := hr r e; exact ⟨h1, o, ho, Obj.not_cells_of_walk hw⟩)
theorem OwnFrom.mono {β : Type} {B B' : Nat} {J : β → World → Prop} (h : OwnFrom B J) (hB : B ≤ B') : OwnFrom B' J := fun s W W' row hs hg hr =>
  h s W W' row hs hg (fun r e => ⟨Nat.le_trans hB (hr r e).1, (hr r e).2⟩)

theorem backward_all (Bl Bs n : Nat) (r : Nat → BR) (hn : n ≤ 100000) (w : World) (hB : Bl < w.heap.size) (h : BackAt Bl w Bs n r) :
    SeqAll Try.prog 92 #[.pointer (some ⟨Bs, 0, none⟩)] encB (Kp Bl) (fun ys => ys = down n r n) n w := fun m l J W hW hJ hY h0 => by
  refine (backward_stops m Bl Bs n r hn w hB h l J (fun _ _ => False) W hW (OwnFrom.abides hJ) (fun _ _ _ _ h _ _ => h) (fun pre x W1 hj hl => (YieldAt.wide (hY pre x W1 hj hl)).mono fun e W' h => .inl ⟨h.1, h.2.1, h.2.2.1⟩) h0).mono ?_
  rintro e W' ⟨hv, ⟨ys, hs, hj⟩ | ⟨_, _, h⟩⟩
  · exact ⟨hv, ys, hs, hj⟩
  · exact h.elim

theorem Mine.grown {Bl B : Nat} {W W' : World} {k : Nat} {c : Array Value} {t : TypeId} {row : Option Nat} (h : Mine Bl W k c t) (hB : Bl < B) (hBW : Bl < W.heap.size) (hg : W.grownBy W' row) (hr : ∀ r, row = some r → B ≤ r ∧ ∃ o : Obj, W.heap[r]? = some o ∧ o.isCells = false) : Mine Bl W' k c t := by
  have hl := (Array.getElem?_eq_some_iff.1 h.1).1
  refine ⟨(hg.block _ hl (fun e => ?_)).trans h.1, h.2.1, ?_⟩
  · obtain ⟨_, o, ho, hc⟩ := hr k e.symm
    rw [h.1] at ho; cases ho; cases hc
  · rw [ownB_same (hg.block _ hBW (fun e => by have := (hr _ e.symm).1; omega))]; exact h.2.2

theorem RS.slice {w : World} {base : Nat} {v : Value} {l : List (Int × Int)} (h : RS w base v l) : ∃ a cap, v = .slice a l.length cap := by
  rcases h.2 with ⟨rfl, h0⟩ | ⟨g, cap, cur, rfl, _⟩
  · exact ⟨none, 0, by rw [h0]⟩
  · exact ⟨_, _, rfl⟩

/-- The k-th of some ranges, as a range whose ends are no great numbers. -/
def brAt (l : List (Int × Int)) (k : Nat) : BR :=
  if h : -1000000 ≤ (l.getD k (0, 0)).1 ∧ (l.getD k (0, 0)).1 ≤ 1000000 ∧ -1000000 ≤ (l.getD k (0, 0)).2 ∧ (l.getD k (0, 0)).2 ≤ 1000000 then ⟨l.getD k (0, 0), h⟩ else ⟨(0, 0), by decide⟩

theorem below_grown {W W' : World} (h : Below W.heap.size W W') : W.grownBy W' none := ⟨h.os, h.tape, h.output, h.size, fun k hk _ => h.block k hk⟩

theorem ext_bd1 (l : List (Int × Int)) (lo hi B : Int) (h : ∀ r ∈ l, 0 ≤ r.1 ∧ r.1 ≤ B) (h0 : 0 ≤ lo) (h1 : lo ≤ B) : ∀ r ∈ ext l lo hi, 0 ≤ r.1 ∧ r.1 ≤ B := by
  intro r hr
  rcases List.eq_nil_or_concat l with rfl | ⟨l0, ⟨a, b⟩, rfl⟩
  · simp [ext] at hr; subst hr; exact ⟨h0, h1⟩
  · rw [List.concat_eq_append] at *
    have hb := h (a, b) (by simp)
    simp only at hb
    have he : ext (l0 ++ [(a, b)]) lo hi = if lo ≤ b + 1 then l0 ++ [(a, max b hi)] else (l0 ++ [(a, b)]) ++ [(lo, hi)] := by simp [ext]
    rw [he] at hr
    split at hr
    · rcases List.mem_append.1 hr with h2 | h2
      · exact h r (by simp [h2])
      · simp at h2; subst h2; exact hb
    · rcases List.mem_append.1 hr with h2 | h2
      · exact h r h2
      · simp at h2; subst h2; exact ⟨h0, h1⟩
theorem rngs_bd1 (fl : Nat → Bool) (k : Nat) : ∀ r ∈ rngs fl k, 0 ≤ r.1 ∧ r.1 ≤ (k : Int) := by
  induction k with
  | zero => simp [rngs]
  | succ k ih =>
    have ih' : ∀ r ∈ rngs fl k, 0 ≤ r.1 ∧ r.1 ≤ ((k + 1 : Nat) : Int) := fun r hr => ⟨(ih r hr).1, by have := (ih r hr).2; omega⟩
    rw [rngs]; split
    · exact ext_bd1 _ _ _ _ ih' (by omega) (by omega)
    · exact ih'

theorem brAt_val {l : List (Int × Int)} (h : ∀ r ∈ l, -1000000 ≤ r.1 ∧ r.1 ≤ 1000000 ∧ -1000000 ≤ r.2 ∧ r.2 ≤ 1000000) (k : Nat) (hk : k < l.length) : (brAt l k).1 = l[k] := by
  have e : l.getD k (0, 0) = l[k] := by simp [hk]
  unfold brAt
  rw [dif_pos (by rw [e]; exact h _ (List.getElem_mem hk))]
  exact e

theorem flat_get (l : List (Int × Int)) (k : Nat) (hk : k < l.length) : (flat l)[k * 2]? = some (.int .i64 l[k].1) ∧ (flat l)[k * 2 + 1]? = some (.int .i64 l[k].2) := by
  induction l generalizing k with
  | nil => simp at hk
  | cons x l ih =>
    cases k with
    | zero => exact ⟨rfl, rfl⟩
    | succ k =>
      have := ih k (by simpa using hk)
      refine ⟨?_, ?_⟩
      · have h2 : (flat (x :: l))[(k + 1) * 2]? = (flat l)[k * 2]? := by rw [show (k + 1) * 2 = k * 2 + 1 + 1 from by omega]; rfl
        rw [h2, this.1]; rfl
      · have h2 : (flat (x :: l))[(k + 1) * 2 + 1]? = (flat l)[k * 2 + 1]? := by rw [show (k + 1) * 2 + 1 = k * 2 + 1 + 1 + 1 from by omega]; rfl
        rw [h2, this.2]; rfl

theorem back_of_rs {Bl base : Nat} {w : World} {v : Value} {l : List (Int × Int)} (h : RS w base v l) (hB : Bl < base) (ho : ∀ k, ownB w Bl = some k → k < base) (hbase : base ≤ w.heap.size)
    (hbd : ∀ r ∈ l, -1000000 ≤ r.1 ∧ r.1 ≤ 1000000 ∧ -1000000 ≤ r.2 ∧ r.2 ≤ 1000000) : BackAt Bl (w.alloc (.cells #[v] 38)) w.heap.size l.length (brAt l) := by
  have hnew : Mine Bl (w.alloc (.cells #[v] 38)) w.heap.size #[v] 38 := Mine.new (by omega) (fun k hk => by have := ho k hk; omega) _ _
  rcases h.2 with ⟨rfl, h0⟩ | ⟨g, cap, cur, rfl, hg, hgc, _, _, hcs, hcur⟩
  · exact .inl ⟨hnew, h0⟩
  · refine .inr ⟨g, cap, cur, hnew, ⟨?_, by omega, ?_⟩, fun j hj => ?_⟩
    · rw [(below_alloc w _).block _ (Array.getElem?_eq_some_iff.1 hgc).1]; exact hgc
    · rw [ownB_same ((below_alloc w _).block _ (by omega))]; intro e; have := ho _ e; omega
    · have hf := flat_get l j hj
      rw [← hcur, List.getElem?_take, List.getElem?_take, if_pos (by omega), if_pos (by omega)] at hf
      rw [brAt_val hbd j hj]
      simpa using hf

/-- The true ages of a number as ranges; the same, the greatest ones first. -/
def ageRs (f b m e num : Int) : List (Int × Int) := rngs (agesF f b m e num 126) 121
def yearsL (l : List (Int × Int)) : List BR := (down l.length (brAt l) l.length).map (·.2)
theorem ranges_rs (f b m e num : Int) (w : World) : Calls Try.prog 84 #[.agg (flagsA (agesF f b m e num 126))] w (Gives w w.heap.size (ageRs f b m e num)) := ranges_any _ _

attribute [local go_sem] Oper.semAt_some
attribute [local go_sem ↓] Go.wp_at_zero Go.wp_at_succ

set_option maxRecDepth 100000 in
set_option maxHeartbeats 2000000 in
theorem years1_in (n l Bl Bp Br b off nr cap q : Nat) (num f bb m e : Int) (J : List BR → World → Prop)
    (W : World) (hJ : OwnFrom W.heap.size J)
    (hY : ∀ pre x W1, J pre W1 → pre.length < 121 → YieldAt Fence.wide n Try.prog l (encY x) W1 fun e W' =>
      e = .returned (.bool true) ∧ J (pre ++ [x]) W' ∧ Kp Bl W1 W' ∧ KeepsOthers W1 W')
    (hBl : Bl < W.heap.size) (hown : ∀ k, ownB W Bl = some k → k < W.heap.size)
    (p1 : W.cell? ⟨Bp, 2, none⟩ = some (.slice (some ⟨b, off, none⟩) nr cap)) (r1 : W.cell? ⟨Br, 1, none⟩ = some (.int .i64 (q : Int))) (r2 : W.cell? ⟨Br, 2, none⟩ = some (.int .i64 num))
    (hp : Bp < W.heap.size) (hr : Br < W.heap.size) (hb : b < W.heap.size) (hq : q < nr)
    (c0 : W.cell? ⟨b, off + q * 4, none⟩ = some (.int .i64 f)) (c1 : W.cell? ⟨b, off + q * 4 + 1, none⟩ = some (.int .i64 bb)) (c2 : W.cell? ⟨b, off + q * 4 + 2, none⟩ = some (.int .i64 m)) (c3 : W.cell? ⟨b, off + q * 4 + 3, none⟩ = some (.int .i64 e))
    (hok : okRule f bb m e = true) (h0 : J [] W) :
    CallsIn Fence.wide n Try.prog 105 #[.func (.yield l) #[] #[], .pointer (some ⟨Bp, 0, none⟩), .pointer (some ⟨Br, 0, none⟩)] W fun x W' => (∃ v, x = .returned v) ∧
      ∃ ys, ys = yearsL (ageRs f bb m e num) ∧ J ys W' := by
  obtain ⟨g0, g1, g2, g3, g4, g5, g6, g7⟩ := okRule_bd hok
  have HA := Lib.hid (fun W => ages_any f bb m e num W g2 g3 g4 g5 g6 g7)
  unfold ruleV at HA
  have HY := Lib.hid hY; clear hY
  have HJ := Lib.hid hJ; clear hJ
  have HO := Lib.hid hown; clear hown hok
  have qi : (0 : Int) ≤ (q : Int) := by omega
  have qj : (q : Int) < (nr : Int) := by omega
  have hp' : Bp < W.heap.size + 1 := by omega
  have hr' : Br < W.heap.size + 1 := by omega
  have hb' : b < W.heap.size + 1 := by omega
  refine callsIn_of_wp_marks Try.func105 rfl trivial ?_ rfl
  simp only [Try.ntmps105, List.size_toArray, List.length_cons, List.length_nil, Nat.reduceAdd, Nat.reduceSub, Array.replicate_succ, Array.replicate_zero, List.push_toArray, List.append_toArray, List.nil_append, List.cons_append]
  refine wpIn_wide.2 ?_
  go_wp2
  go_region_held3 (fun w' => w'.cell? ⟨Bp, 2, none⟩ = some (.slice (some ⟨b, off, none⟩) nr cap) ∧ w'.cell? ⟨Br, 1, none⟩ = some (.int .i64 (q : Int)) ∧ w'.cell? ⟨Br, 2, none⟩ = some (.int .i64 num) ∧ w'.cell? ⟨b, off + q * 4, none⟩ = some (.int .i64 f) ∧ w'.cell? ⟨b, off + q * 4 + 1, none⟩ = some (.int .i64 bb) ∧ w'.cell? ⟨b, off + q * 4 + 2, none⟩ = some (.int .i64 m) ∧ w'.cell? ⟨b, off + q * 4 + 3, none⟩ = some (.int .i64 e)) (go_keep)
    (first | (go_at_call 83; refine (HA.out _).mono ?_; rintro e w2 ⟨rfl, hb2⟩; obtain ⟨hc2, hf2⟩ := bcell hb2; have hs2 := hb2.size; simp at hs2; have hp2 : Bp < w2.heap.size := Nat.lt_of_lt_of_le hp' hs2; have hr2 : Br < w2.heap.size := Nat.lt_of_lt_of_le hr' hs2; have hbb2 : b < w2.heap.size := Nat.lt_of_lt_of_le hb' hs2) | (go_at_call 84; refine (ranges_rs f bb m e num _).mono ?_; rintro r w3 ⟨v, rfl, hr3, hb3⟩; obtain ⟨hc3, hf3⟩ := bcell hb3; have hs3 := hb3.size))
  obtain ⟨a4, cap4, rfl⟩ := hr3.slice
  go_wp2_with (go_at_call 67; refine (backward_any _ _ _ _).mono ?_; rintro e w4 ⟨rfl, rfl⟩)
  have hB3 : Bl < w3.heap.size := by omega
  have hO3 : ownB w3 Bl = ownB W Bl := by
    rw [ownB_same (hb3.block _ (by omega)), ownB_same (hb2.block _ (by simp; omega))]
    exact ownB_same ((below_alloc W _).block _ hBl)
  have hb2' : Below (W.alloc (.cells #[.func (.yield l) #[] #[]] 131)).heap.size (W.alloc (.cells #[.func (.yield l) #[] #[]] 131)) w2 := (Below.refl _ _).drew.trans hb2
  have hmy : Mine Bl (w3.alloc (.cells #[.slice a4 (ageRs f bb m e num).length cap4] 38)) W.heap.size #[.func (.yield l) #[] #[]] 131 :=
    (((Mine.new hBl HO.out _ _).below (by simp; omega) hb2').below (by omega) hb3).below hB3 (below_alloc _ _)
  have hback : BackAt Bl (w3.alloc (.cells #[.slice a4 (ageRs f bb m e num).length cap4] 38)) w3.heap.size (ageRs f bb m e num).length (brAt (ageRs f bb m e num)) := back_of_rs hr3 (by omega) (fun k hk => by rw [hO3] at hk; have := HO.out k hk; omega) hs3 (fun r hr => by have h1 := rngs_bd _ _ r hr; have h2 := rngs_bd1 _ _ r hr; omega)
  refine wpIn_wide.1 (wide_range (n := 0) (gf := 92) (lb := #[.pointer (some ⟨w3.heap.size, 0, none⟩)]) rfl (enters_of Try.func92 (by kernel_rfl) rfl)
    (backward_all Bl w3.heap.size _ _ (by have := rngs_length (agesF f bb m e num 126) 121; unfold ageRs; omega) _ (by simp; omega) hback) (fun _ => rfl) Kp.trans (Kp.b (by simp; omega))
    (fun pre W' => J (pre.map (·.2)) W' ∧ Mine Bl W' W.heap.size #[.func (.yield l) #[] #[]] 131 ∧ Bl < W'.heap.size) ?hI ?h0
    (fun pre x a' W' => (J (pre.map (·.2)) W' ∧ Mine Bl W' W.heap.size #[.func (.yield l) #[] #[]] 131 ∧ Bl < W'.heap.size) ∧ ∃ Bx, W'.heap[Bx]? = some (.cells #[.int .i64 x.2.1.1, .int .i64 x.2.1.2] 41 (0, 0)) ∧ a' = { tmps := #[.func (.yield l) #[] #[], .pointer (some ⟨Bp, 0, none⟩), .pointer (some ⟨Br, 0, none⟩), .pointer (some ⟨W.heap.size, 0, none⟩), .slice a4 (ageRs f bb m e num).length cap4, undef, .pointer (some ⟨Bx, 0, none⟩), .pointer (some ⟨Bp, 2, none⟩), .slice (some ⟨b, off, none⟩) nr cap, .pointer (some ⟨Br, 1, none⟩), .int .i64 (q : Int), .pointer (some ⟨b, off + q * 4, none⟩), .agg #[.int .i64 f, .int .i64 bb, .int .i64 m, .int .i64 e], .pointer (some ⟨Br, 2, none⟩), .int .i64 num, .agg (flagsA (agesF f bb m e num 126)), .slice a4 (ageRs f bb m e num).length cap4, .slice a4 (ageRs f bb m e num).length cap4, .func (.func 92) #[] #[.pointer (some ⟨w3.heap.size, 0, none⟩)], .int .i64 (x.1 : Int), .agg #[.int .i64 x.2.1.1, .int .i64 x.2.1.2], undef, undef, undef, undef], defers := [] })
    ?hA ?assign ?body ?done)
  case hI =>
    intro s X Y row hs hg hr
    exact ⟨OwnFrom.mono HJ.out (by simp; omega) _ X Y row hs.1 hg hr, hs.2.1.grown (B := (w3.alloc (.cells #[.slice a4 (ageRs f bb m e num).length cap4] 38)).heap.size) (by simp; omega) hs.2.2 hg hr, Nat.lt_of_lt_of_le hs.2.2 hg.size⟩
  case h0 => exact ⟨HJ.out _ W _ none h0 (below_grown ((((below_alloc W _).trans (hb2'.mono (by simp))).trans (hb3.mono (by omega))).trans ((below_alloc w3 _).mono (by omega)))) (fun r e => by cases e), hmy, by simp; omega⟩
  case hA =>
    rintro pre x a' s X Y row ⟨hs, Bx, hbx, rfl⟩ hg hr
    refine ⟨⟨OwnFrom.mono HJ.out (by simp; omega) _ X Y row hs.1 hg hr, hs.2.1.grown (B := (w3.alloc (.cells #[.slice a4 (ageRs f bb m e num).length cap4] 38)).heap.size) (by simp; omega) hs.2.2 hg hr, Nat.lt_of_lt_of_le hs.2.2 hg.size⟩, Bx, ?_, rfl⟩
    rw [hg.block _ (Array.getElem?_eq_some_iff.1 hbx).1 (fun e => by obtain ⟨_, o, ho, hc⟩ := hr _ e.symm; rw [hbx] at ho; cases ho; cases hc)]
    exact hbx
  case assign =>
    rintro l1 pre x W1 ⟨i1, i2, i3⟩ hlen
    have HI1 := Lib.hid i1; have HI2 := Lib.hid i2; clear i1 i2
    simp only [encB]
    gi_wp2
    exact ⟨Kp.alloc i3 _, KeepsOthers.alloc _ _, ⟨OwnFrom.alloc HJ.out _ HI1.out, HI2.out.below i3 (below_alloc _ _), by simp; omega⟩, W1.heap.size, heap_alloc_new _ _, rfl⟩
  case body =>
    rintro l1 pre x a' W1 hl ⟨r, hr⟩ ⟨⟨i1, i2, i3⟩, Bx, hbx, rfl⟩ hlen
    have x0 : W1.cell? ⟨Bx, 0, none⟩ = some (.int .i64 x.2.1.1) := cell_of_row _ _ 0 _ _ _ hbx
    have x1 : W1.cell? ⟨Bx, 1, none⟩ = some (.int .i64 x.2.1.2) := cell_of_row _ _ 1 _ _ _ hbx
    have y0 : W1.cell? ⟨W.heap.size, 0, none⟩ = some (.func (.yield l) #[] #[]) := i2.cell 0
    obtain ⟨fn, tmps, ac, bd, hy, hR⟩ := HY.out _ x.2 W1 i1 (by have := rngs_length (agesF f bb m e num 126) 121; unfold ageRs at hlen; simp; omega)
    dsimp only [encY] at hy
    have HR := Lib.hid hR; clear hR
    have HI1 := Lib.hid i1; have HI2 := Lib.hid i2; clear i1 i2
    gi_wp2
    refine ⟨rfl, ?_⟩
    refine RoundIn.mono (R := _) (show RoundIn (Fence.wide.inRound l1) _ _ _ _ _ _ _ _ _ from ⟨HR.out.1, fun c cs _ => HR.out.2 c cs (room_wide _)⟩) ?_
    rintro e W3 ⟨rfl, hJ3, hk3, ho3⟩
    gi_wp2
    exact ⟨hJ3, HI2.out.kp hk3, Nat.lt_of_lt_of_le i3 hk3.size⟩
  case done =>
    rintro D xs W5 hD rfl ⟨hj, _, _⟩ hK
    gi_wp2
    refine ⟨by simp, .inl ⟨_, _, rfl, run_takeDeferred hK, ?_⟩⟩
    exact ⟨_, results_none rfl _ _ _, ⟨_, rfl⟩, _, rfl, OwnFrom.putObj HJ.out _ hj (by simp at hD; omega) hK rfl⟩

theorem years_all (Bl Bp Br b off nr cap q : Nat) (num f bb m e : Int) (w : World) (hBl : Bl < w.heap.size) (hown : ∀ k, ownB w Bl = some k → k < w.heap.size)
    (p1 : w.cell? ⟨Bp, 2, none⟩ = some (.slice (some ⟨b, off, none⟩) nr cap)) (r1 : w.cell? ⟨Br, 1, none⟩ = some (.int .i64 (q : Int))) (r2 : w.cell? ⟨Br, 2, none⟩ = some (.int .i64 num))
    (hp : Bp < w.heap.size) (hr : Br < w.heap.size) (hb : b < w.heap.size) (hq : q < nr)
    (c0 : w.cell? ⟨b, off + q * 4, none⟩ = some (.int .i64 f)) (c1 : w.cell? ⟨b, off + q * 4 + 1, none⟩ = some (.int .i64 bb)) (c2 : w.cell? ⟨b, off + q * 4 + 2, none⟩ = some (.int .i64 m)) (c3 : w.cell? ⟨b, off + q * 4 + 3, none⟩ = some (.int .i64 e))
    (hok : okRule f bb m e = true) :
    SeqAll Try.prog 105 #[.pointer (some ⟨Bp, 0, none⟩), .pointer (some ⟨Br, 0, none⟩)] encY (Kp Bl) (fun ys => ys = yearsL (ageRs f bb m e num)) 121 w := fun n l J W hW hJ hY h0 => by
  have ho : ownB W Bl = ownB w Bl := ownB_same (hW.block _ hBl)
  exact years1_in n l Bl Bp Br b off nr cap q num f bb m e J W hJ hY (Nat.lt_of_lt_of_le hBl hW.size) (fun k hk => by rw [ho] at hk; exact Nat.lt_of_lt_of_le (hown k hk) hW.size)
    ((hW.cell (p := ⟨Bp, _, none⟩) hp).trans p1) ((hW.cell (p := ⟨Br, _, none⟩) hr).trans r1) ((hW.cell (p := ⟨Br, _, none⟩) hr).trans r2) (Nat.lt_of_lt_of_le hp hW.size) (Nat.lt_of_lt_of_le hr hW.size) (Nat.lt_of_lt_of_le hb hW.size) hq
    ((hW.cell (p := ⟨b, _, none⟩) hb).trans c0) ((hW.cell (p := ⟨b, _, none⟩) hb).trans c1) ((hW.cell (p := ⟨b, _, none⟩) hb).trans c2) ((hW.cell (p := ⟨b, _, none⟩) hb).trans c3) hok h0
end Go.Proofs.Ytagfcfojfjkmbaa
