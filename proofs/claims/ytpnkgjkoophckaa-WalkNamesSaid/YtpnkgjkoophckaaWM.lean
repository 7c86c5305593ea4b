/- Walk: the atlas. Printed by gen_wm.py. -/
import Derived.Test.YtpnkgjkoophckaaWL
namespace Go.Proofs.Ytpnkgjkoophckaa
open Go.RowKit Go.Shelf

theorem cell_blocks {W X : World} {p : Addr} {v : Value} (hk : ∀ b, b < W.heap.size → X.heap[b]? = W.heap[b]?) (hb : p.block < W.heap.size) (hc : W.cell? p = some v) : X.cell? p = some v := by
  unfold World.cell? at *
  rw [hk _ hb]; exact hc
theorem MpIn.blocks {W X : World} {x : MV} {m : Mp} (h : MpIn W x m) (hz : W.heap.size ≤ X.heap.size) (hk : ∀ b, b < W.heap.size → X.heap[b]? = W.heap[b]?) : MpIn X x m := by
  obtain ⟨h1, h2⟩ := h
  refine ⟨?_, ?_⟩
  · rcases h1 with h | ⟨b, off, cap, e, hb, hz'⟩
    · exact .inl h
    · exact .inr ⟨b, off, cap, e, by omega, fun j hj => ⟨cell_blocks hk hb (hz' j hj).1, cell_blocks hk hb (hz' j hj).2⟩⟩
  · rcases h2 with h | ⟨b, off, cap, e, hb, hz'⟩
    · exact .inl h
    · exact .inr ⟨b, off, cap, e, by omega, fun j hj => ⟨cell_blocks hk hb (hz' j hj).1, cell_blocks hk hb (hz' j hj).2.1, cell_blocks hk hb (hz' j hj).2.2.1, cell_blocks hk hb (hz' j hj).2.2.2⟩⟩
/-- An atlas in memory, at A; its map of tours at bm. -/
def AtlasAt (X : World) (A bm : Nat) (x : MV) (m : Mp) : Prop :=
  ∃ t f, X.heap[A]? = some (.cells (atA x m t f bm) 135 (0, 0)) ∧ ∀ n q, n < m.nw → q < m.nw → t n q = tmA m n q ∧ f n q = fsA m n q
def GivesA (w : World) (x : MV) (m : Mp) (e : Ending) (w' : World) : Prop :=
  e = .returned (.pointer (some ⟨w.heap.size + 2, 0, none⟩)) ∧ AtlasAt w' (w.heap.size + 2) (w.heap.size + 1) x m ∧ w'.heap[w.heap.size + 1]? = some (.map #[] 0) ∧ Below w.heap.size w w'
/-- The columns below g are done. -/
def Done (m : Mp) (g : Nat) (t f : Nat → Nat → Int) : Prop := (∀ n q, n < m.nw → q < g → t n q = tmA m n q ∧ f n q = fsA m n q) ∧ ∀ n q, g ≤ q → f n q = 0
/-- Column g at work: round r; the others as they were. -/
def Colm (m : Mp) (g : Nat) (s : TF) (t0 f0 t f : Nat → Nat → Int) : Prop := (∀ n, n < m.nw → t n g = s.1 n ∧ f n g = s.2 n) ∧ ∀ n q, q ≠ g → t n q = t0 n q ∧ f n q = f0 n q
theorem Colm.step {m : Mp} {g o : Nat} {s : TF} {t0 f0 t f : Nat → Nat → Int} (h : Colm m g s t0 f0 t f) (v z : Int) : Colm m g (upd s.1 o v, upd s.2 o z) t0 f0 (upd2 t o g v) (upd2 f o g z) := by
  refine ⟨fun n hn => ?_, fun n q hq => ?_⟩
  · by_cases e : n = o
    · subst e; rw [upd2_eq, upd2_eq]; exact ⟨upd_same.symm, upd_same.symm⟩
    · rw [upd2_ne _ _ (fun h => e h.1), upd2_ne _ _ (fun h => e h.1)]
      simp only [upd_ne e]
      exact h.1 n hn
  · rw [upd2_ne _ _ (fun h => hq h.2), upd2_ne _ _ (fun h => hq h.2)]
    exact h.2 n q hq
theorem Colm.done {m : Mp} {g : Nat} {t0 f0 t f : Nat → Nat → Int} (hd : Done m g t0 f0) (h : Colm m g (rounds m g m.nw).t t0 f0 t f) : Done m (g + 1) t f := by
  refine ⟨fun n q hn hq => ?_, fun n q hq => ?_⟩
  · by_cases e : q = g
    · subst e; exact h.1 n hn
    · rw [(h.2 n q e).1, (h.2 n q e).2]; exact hd.1 n q hn (by omega)
  · rw [(h.2 n q (by omega)).2]; exact hd.2 n q (by omega)
theorem Colm.start {m : Mp} {g : Nat} {t0 f0 t : Nat → Nat → Int} (hd : Done m g t0 f0) (h1 : ∀ n q, q ≠ g → t n q = t0 n q) (h2 : ∀ n, n < m.nw → t n g = 1048576) : Colm m g (startS g).t t0 f0 (upd2 t g g 0) (upd2 f0 g g g) := by
  refine ⟨fun n hn => ?_, fun n q hq => ?_⟩
  · by_cases e : n = g
    · subst e; rw [upd2_eq, upd2_eq]; simp [startS]
    · rw [upd2_ne _ _ (fun h => e h.1), upd2_ne _ _ (fun h => e h.1), h2 n hn, hd.2 n g (Nat.le_refl _)]; simp [startS, e]
  · rw [upd2_ne _ _ (fun h => hq h.2), upd2_ne _ _ (fun h => hq h.2)]; exact ⟨h1 n q hq, rfl⟩
set_option maxRecDepth 100000 in
theorem atA_zero (x : MV) (m : Mp) (bm : Nat) : ((Try.zeroCells135.setIfInBounds 0 (Value.slice x.wa m.nw x.wc)).setIfInBounds 1 (Value.slice x.ra m.nr x.rc)).setIfInBounds 130 (Value.map (some bm)) = atA x m (fun _ _ => 0) (fun _ _ => 0) bm := by kernel_rfl
theorem AQ.init (w : World) (x : MV) (m : Mp) : AQ w ((((w.alloc (.cells #[.slice x.wa m.nw x.wc, .slice x.ra m.nr x.rc] 37)).alloc (.map #[] 0)).alloc (.cells (atA x m (fun _ _ => 0) (fun _ _ => 0) (w.heap.size + 1)) 135)).alloc (.cells #[.pointer (some ⟨w.heap.size + 2, 0, none⟩)] 125)) x m (fun _ _ => 0) (fun _ _ => 0) [] [] := by
  obtain ⟨hs, hb, k0, k1, k2, k3⟩ := alloc4 w (.cells #[.slice x.wa m.nw x.wc, .slice x.ra m.nr x.rc] 37) (.map #[] 0) (.cells (atA x m (fun _ _ => 0) (fun _ _ => 0) (w.heap.size + 1)) 135) (.cells #[.pointer (some ⟨w.heap.size + 2, 0, none⟩)] 125)
  refine ⟨⟨hb, fun b cs T hm => ?_⟩, fun p hp => (by cases hp), k1, trivial⟩
  simp only [List.mem_cons, Prod.mk.injEq, List.not_mem_nil, or_false] at hm
  rcases hm with ⟨rfl, rfl, rfl⟩ | ⟨rfl, rfl, rfl⟩ | ⟨rfl, rfl, rfl⟩
  · exact ⟨Nat.le_refl _, k0⟩
  · exact ⟨by omega, k2⟩
  · exact ⟨by omega, k3⟩
/-- In the rounds over the roads at a place: the atlas alone is written. -/
def RI (Wb : World) (A bm : Nat) (x : MV) (m : Mp) (g : Nat) (t0 f0 : Nat → Nat → Int) (near : Nat) (s0 : TF) (k : Nat) (W : World) : Prop :=
  Fr (fun q => q = A) Wb W ∧ ∃ t f, W.heap[A]? = some (.cells (atA x m t f bm) 135 (0, 0)) ∧ Colm m g (relaxL m near ((atL m near).take k) s0) t0 f0 t f
theorem RI.own (Wb : World) (A bm : Nat) (x : MV) (m : Mp) (g : Nat) (t0 f0 : Nat → Nat → Int) (near : Nat) (s0 : TF) : OwnFrom Wb.heap.size (RI Wb A bm x m g t0 f0 near s0) := by
  rintro k W W' row ⟨h1, t, f, h2, h3⟩ hg hr
  have hne : ∀ q c T fr, W.heap[q]? = some (.cells c T fr) → ¬ row = some q := fun q c T fr hq e => by
    obtain ⟨_, o, ho, hc⟩ := hr q e; rw [hq] at ho; cases ho; cases hc
  have hg' := Fr.grown hg
  refine ⟨⟨hg'.os.trans h1.os, hg'.tape.trans h1.tape, hg'.output.trans h1.output, Nat.le_trans h1.size hg'.size, fun q hq he => ?_⟩, t, f, (hg'.block _ (Array.getElem?_eq_some_iff.1 h2).1 (hne _ _ _ _ h2)).trans h2, h3⟩
  exact (hg'.block q (Nat.lt_of_lt_of_le hq h1.size) (fun e => by have := (hr q e).1; omega)).trans (h1.block q hq he)
/-- The frame of a round over the roads. -/
def BodyA (p3 p4 p7 v9 v10 : Value) (a : Act) : Prop := ∃ (u0 u1 u2 u5 u6 u8 u11 u12 u13 u14 u15 u16 u17 u18 u19 u20 u21 u22 u23 u24 u25 u26 u27 u28 u29 u30 u31 u32 u33 u34 u35 u36 u37 u38 u39 u40 u41 u42 u43 u44 u45 u46 u47 u48 u49 u50 u51 u52 u53 u54 u55 u56 u57 u58 u59 u60 u61 u62 u63 u64 u65 u66 u67 u68 u69 u70 u71 u72 u73 u74 u75 u76 u77 u78 u79 u80 u81 u82 u83 u84 u85 u86 u87 u88 u89 u90 u91 u92 u93 u94 u95 u96 u97 u98 u99 u100 u101 u102 u103 u104 u105 u106 u107 u108 u109 u110 u111 u112 u113 u114 u115 u116 u117 u118 u119 u120 u121 u122 u123 u124 u125 u126 u127 u128 u129 u130 u131 u132 u133 u134 u135 u136 : Value), a = { tmps := #[u0, u1, u2, p3, p4, u5, u6, p7, u8, v9, v10, u11, u12, u13, u14, u15, u16, u17, u18, u19, u20, u21, u22, u23, u24, u25, u26, u27, u28, u29, u30, u31, u32, u33, u34, u35, u36, u37, u38, u39, u40, u41, u42, u43, u44, u45, u46, u47, u48, u49, u50, u51, u52, u53, u54, u55, u56, u57, u58, u59, u60, u61, u62, u63, u64, u65, u66, u67, u68, u69, u70, u71, u72, u73, u74, u75, u76, u77, u78, u79, u80, u81, u82, u83, u84, u85, u86, u87, u88, u89, u90, u91, u92, u93, u94, u95, u96, u97, u98, u99, u100, u101, u102, u103, u104, u105, u106, u107, u108, u109, u110, u111, u112, u113, u114, u115, u116, u117, u118, u119, u120, u121, u122, u123, u124, u125, u126, u127, u128, u129, u130, u131, u132, u133, u134, u135, u136], defers := [] }
/-- A block that is never left but at its end. -/
theorem wp_calmB {P : Program} {c : Code} {id : Nat} {N : Act → World → Prop} {Q : Exit → Act → World → Prop} {a : Act} {w : World} (h : c.wp P (Exit.inBlock id (Exit.then N (fun _ _ _ => False))) a w) : c.wp P (Exit.inBlock id (Exit.then N Q)) a w :=
  wp_mono h fun e a w hq => by
    cases e with
    | normal => exact hq
    | exit k =>
      simp only [Exit.inBlock] at hq ⊢
      by_cases hk : k = id
      · rw [if_pos hk] at hq ⊢; exact hq
      · rw [if_neg hk] at hq; exact hq.elim
    | _ => exact hq.elim
theorem set_block {X : World} {B i : Nat} {cs cs' : Array Value} {T : TypeId} {v : Value} (h : X.heap[B]? = some (.cells cs T (0, 0))) (hi : i < cs.size) (hc : cs.setIfInBounds i v = cs') : (X.setCell ⟨B, i, none⟩ v).heap[B]? = some (.cells cs' T (0, 0)) := by
  subst hc
  simp [World.setCell, Array.getElem?_modify, h, Array.setIfInBounds, hi]
theorem RI.fin {Wb W1 Z : World} {A bm : Nat} {x : MV} {m : Mp} {g : Nat} {t0 f0 t2 f2 : Nat → Nat → Int} {near k : Nat} {s0 : TF} (hA : A < Wb.heap.size) (h1 : Fr (fun q => q = A) Wb W1) (h2 : Fr (fun q => q = A) W1 Z)
    (hb : Z.heap[A]? = some (.cells (atA x m t2 f2 bm) 135 (0, 0))) (hc : Colm m g (relaxL m near ((atL m near).take (k + 1)) s0) t0 f0 t2 f2) : KeepsFrom Wb.heap.size W1 Z ∧ Kx Wb.heap.size (fun q => q = A) W1 Z ∧ RI Wb A bm x m g t0 f0 near s0 (k + 1) Z :=
  ⟨⟨h2.size, fun k o hB hk _ => (h2.block k (Array.getElem?_eq_some_iff.1 hk).1 (by omega)).trans hk⟩, Kx.fr h1.size h2 (fun _ _ h => h), h1.trans h2, t2, f2, hb, hc⟩
attribute [local go_sem] Oper.semAt_some
set_option maxRecDepth 100000 in
set_option maxHeartbeats 16000000 in
theorem atlas_any (x : MV) (m : Mp) (w : World) (h : MpIn w x m) (ok : OkM m) :
    Calls Try.prog 69 #[.agg #[.slice x.wa m.nw x.wc, .slice x.ra m.nr x.rc]] w (GivesA w x m) := by
  have HH := Lib.hid h; have HOK := Lib.hid ok
  have hnw := ok.nw
  clear h ok
  refine callsIn_wide.1 (callsIn_of_wp_marks (n := 0) Try.func69 rfl trivial ?_ rfl)
  simp only [Try.ntmps69, List.size_toArray, List.length_cons, List.length_nil, Nat.reduceAdd, Nat.reduceSub, Array.replicate_succ, Array.replicate_zero, List.push_toArray, List.append_toArray, List.nil_append, List.cons_append]
  refine wpIn_wide.2 ?_
  have hmm := @run_makeMap Try.prog
  go_wp2_with fail
  clear hmm
  rw [atA_zero, show w.heap.size + 1 + 1 + 1 = w.heap.size + 3 from rfl, show w.heap.size + 1 + 1 = w.heap.size + 2 from rfl]
  have HQ0 := Lib.hid (AQ.init w x m)
  generalize ((((w.alloc (.cells #[.slice x.wa m.nw x.wc, .slice x.ra m.nr x.rc] 37)).alloc (.map #[] 0)).alloc (.cells (atA x m (fun _ _ => 0) (fun _ _ => 0) (w.heap.size + 1)) 135)).alloc (.cells #[.pointer (some ⟨w.heap.size + 2, 0, none⟩)] 125)) = w0 at *
  generalize Value.agg (atA x m (fun _ _ => 0) (fun _ _ => 0) (w.heap.size + 1)) = AG at *
  refine wp_calmB ?_
  refine wp_loop (fun a' X => ∃ (u0 u2 u4 u5 u6 u7 u8 u9 u10 u11 u12 u13 u14 u15 u16 u17 u19 u20 u21 u22 u23 u24 u25 u26 u27 u28 u29 u30 u31 u32 u33 u34 u35 u36 u37 u38 u39 u40 u41 u42 u43 u44 u45 u46 u47 u48 u49 u50 u51 u52 u53 u54 u55 u56 u57 u58 u59 u60 u61 u62 u63 u64 u65 u66 u67 u68 u69 u70 u71 u72 u73 u74 u75 u76 u77 u78 u79 u80 u81 u82 u83 u84 u85 u86 u87 u88 u89 u90 u91 u92 u93 u94 u95 u96 u97 u98 u99 u100 u101 u102 u103 u104 u105 u106 u107 u108 u109 u110 u111 u112 u113 u114 u115 u116 u117 u118 u119 u120 u121 u122 u123 u124 u125 u126 u127 u128 u129 u130 u131 u132 u133 u134 u135 u136 : Value) (ds : List Deferred) (g : Nat) (t f : Nat → Nat → Int), (u19 = .int .i64 g ∧ g ≤ m.nw ∧ AQ w X x m t f ds [] ∧ Done m g t f) ∧ a' = { tmps := #[u0, .pointer (some ⟨w.heap.size, 0, none⟩), u2, .pointer (some ⟨w.heap.size + 3, 0, none⟩), u4, u5, u6, u7, u8, u9, u10, u11, u12, u13, u14, u15, u16, u17, .int .i64 m.nw, u19, u20, u21, u22, u23, u24, u25, u26, u27, u28, u29, u30, u31, u32, u33, u34, u35, u36, u37, u38, u39, u40, u41, u42, u43, u44, u45, u46, u47, u48, u49, u50, u51, u52, u53, u54, u55, u56, u57, u58, u59, u60, u61, u62, u63, u64, u65, u66, u67, u68, u69, u70, u71, u72, u73, u74, u75, u76, u77, u78, u79, u80, u81, u82, u83, u84, u85, u86, u87, u88, u89, u90, u91, u92, u93, u94, u95, u96, u97, u98, u99, u100, u101, u102, u103, u104, u105, u106, u107, u108, u109, u110, u111, u112, u113, u114, u115, u116, u117, u118, u119, u120, u121, u122, u123, u124, u125, u126, u127, u128, u129, u130, u131, u132, u133, u134, u135, u136], defers := ds }) (fun a' _ => m.nw - (intOf (a'.tmps.getD 19 undef)).toNat) ?start ?round
  case start => exact ⟨_, _, _, _, _, _, _, _, _, _, _, _, _, _, _, _, _, _, _, _, _, _, _, _, _, _, _, _, _, _, _, _, _, _, _, _, _, _, _, _, _, _, _, _, _, _, _, _, _, _, _, _, _, _, _, _, _, _, _, _, _, _, _, _, _, _, _, _, _, _, _, _, _, _, _, _, _, _, _, _, _, _, _, _, _, _, _, _, _, _, _, _, _, _, _, _, _, _, _, _, _, _, _, _, _, _, _, _, _, _, _, _, _, _, _, _, _, _, _, _, _, _, _, _, _, _, _, _, _, _, _, _, _, _, [], 0, _, _, ⟨rfl, Nat.zero_le _, HQ0.out, ⟨fun _ _ _ h => absurd h (Nat.not_lt_zero _), fun _ _ _ => rfl⟩⟩, rfl⟩
  case round =>
    clear HQ0
    intro _ wr hinv
    obtain ⟨u0, hinv⟩ := hinv
    obtain ⟨u2, hinv⟩ := hinv
    obtain ⟨u4, hinv⟩ := hinv
    obtain ⟨u5, hinv⟩ := hinv
    obtain ⟨u6, hinv⟩ := hinv
    obtain ⟨u7, hinv⟩ := hinv
    obtain ⟨u8, hinv⟩ := hinv
    obtain ⟨u9, hinv⟩ := hinv
    obtain ⟨u10, hinv⟩ := hinv
    obtain ⟨u11, hinv⟩ := hinv
    obtain ⟨u12, hinv⟩ := hinv
    obtain ⟨u13, hinv⟩ := hinv
    obtain ⟨u14, hinv⟩ := hinv
    obtain ⟨u15, hinv⟩ := hinv
    obtain ⟨u16, hinv⟩ := hinv
    obtain ⟨u17, hinv⟩ := hinv
    obtain ⟨u19, hinv⟩ := hinv
    obtain ⟨u20, hinv⟩ := hinv
    obtain ⟨u21, hinv⟩ := hinv
    obtain ⟨u22, hinv⟩ := hinv
    obtain ⟨u23, hinv⟩ := hinv
    obtain ⟨u24, hinv⟩ := hinv
    obtain ⟨u25, hinv⟩ := hinv
    obtain ⟨u26, hinv⟩ := hinv
    obtain ⟨u27, hinv⟩ := hinv
    obtain ⟨u28, hinv⟩ := hinv
    obtain ⟨u29, hinv⟩ := hinv
    obtain ⟨u30, hinv⟩ := hinv
    obtain ⟨u31, hinv⟩ := hinv
    obtain ⟨u32, hinv⟩ := hinv
    obtain ⟨u33, hinv⟩ := hinv
    obtain ⟨u34, hinv⟩ := hinv
    obtain ⟨u35, hinv⟩ := hinv
    obtain ⟨u36, hinv⟩ := hinv
    obtain ⟨u37, hinv⟩ := hinv
    obtain ⟨u38, hinv⟩ := hinv
    obtain ⟨u39, hinv⟩ := hinv
    obtain ⟨u40, hinv⟩ := hinv
    obtain ⟨u41, hinv⟩ := hinv
    obtain ⟨u42, hinv⟩ := hinv
    obtain ⟨u43, hinv⟩ := hinv
    obtain ⟨u44, hinv⟩ := hinv
    obtain ⟨u45, hinv⟩ := hinv
    obtain ⟨u46, hinv⟩ := hinv
    obtain ⟨u47, hinv⟩ := hinv
    obtain ⟨u48, hinv⟩ := hinv
    obtain ⟨u49, hinv⟩ := hinv
    obtain ⟨u50, hinv⟩ := hinv
    obtain ⟨u51, hinv⟩ := hinv
    obtain ⟨u52, hinv⟩ := hinv
    obtain ⟨u53, hinv⟩ := hinv
    obtain ⟨u54, hinv⟩ := hinv
    obtain ⟨u55, hinv⟩ := hinv
    obtain ⟨u56, hinv⟩ := hinv
    obtain ⟨u57, hinv⟩ := hinv
    obtain ⟨u58, hinv⟩ := hinv
    obtain ⟨u59, hinv⟩ := hinv
    obtain ⟨u60, hinv⟩ := hinv
    obtain ⟨u61, hinv⟩ := hinv
    obtain ⟨u62, hinv⟩ := hinv
    obtain ⟨u63, hinv⟩ := hinv
    obtain ⟨u64, hinv⟩ := hinv
    obtain ⟨u65, hinv⟩ := hinv
    obtain ⟨u66, hinv⟩ := hinv
    obtain ⟨u67, hinv⟩ := hinv
    obtain ⟨u68, hinv⟩ := hinv
    obtain ⟨u69, hinv⟩ := hinv
    obtain ⟨u70, hinv⟩ := hinv
    obtain ⟨u71, hinv⟩ := hinv
    obtain ⟨u72, hinv⟩ := hinv
    obtain ⟨u73, hinv⟩ := hinv
    obtain ⟨u74, hinv⟩ := hinv
    obtain ⟨u75, hinv⟩ := hinv
    obtain ⟨u76, hinv⟩ := hinv
    obtain ⟨u77, hinv⟩ := hinv
    obtain ⟨u78, hinv⟩ := hinv
    obtain ⟨u79, hinv⟩ := hinv
    obtain ⟨u80, hinv⟩ := hinv
    obtain ⟨u81, hinv⟩ := hinv
    obtain ⟨u82, hinv⟩ := hinv
    obtain ⟨u83, hinv⟩ := hinv
    obtain ⟨u84, hinv⟩ := hinv
    obtain ⟨u85, hinv⟩ := hinv
    obtain ⟨u86, hinv⟩ := hinv
    obtain ⟨u87, hinv⟩ := hinv
    obtain ⟨u88, hinv⟩ := hinv
    obtain ⟨u89, hinv⟩ := hinv
    obtain ⟨u90, hinv⟩ := hinv
    obtain ⟨u91, hinv⟩ := hinv
    obtain ⟨u92, hinv⟩ := hinv
    obtain ⟨u93, hinv⟩ := hinv
    obtain ⟨u94, hinv⟩ := hinv
    obtain ⟨u95, hinv⟩ := hinv
    obtain ⟨u96, hinv⟩ := hinv
    obtain ⟨u97, hinv⟩ := hinv
    obtain ⟨u98, hinv⟩ := hinv
    obtain ⟨u99, hinv⟩ := hinv
    obtain ⟨u100, hinv⟩ := hinv
    obtain ⟨u101, hinv⟩ := hinv
    obtain ⟨u102, hinv⟩ := hinv
    obtain ⟨u103, hinv⟩ := hinv
    obtain ⟨u104, hinv⟩ := hinv
    obtain ⟨u105, hinv⟩ := hinv
    obtain ⟨u106, hinv⟩ := hinv
    obtain ⟨u107, hinv⟩ := hinv
    obtain ⟨u108, hinv⟩ := hinv
    obtain ⟨u109, hinv⟩ := hinv
    obtain ⟨u110, hinv⟩ := hinv
    obtain ⟨u111, hinv⟩ := hinv
    obtain ⟨u112, hinv⟩ := hinv
    obtain ⟨u113, hinv⟩ := hinv
    obtain ⟨u114, hinv⟩ := hinv
    obtain ⟨u115, hinv⟩ := hinv
    obtain ⟨u116, hinv⟩ := hinv
    obtain ⟨u117, hinv⟩ := hinv
    obtain ⟨u118, hinv⟩ := hinv
    obtain ⟨u119, hinv⟩ := hinv
    obtain ⟨u120, hinv⟩ := hinv
    obtain ⟨u121, hinv⟩ := hinv
    obtain ⟨u122, hinv⟩ := hinv
    obtain ⟨u123, hinv⟩ := hinv
    obtain ⟨u124, hinv⟩ := hinv
    obtain ⟨u125, hinv⟩ := hinv
    obtain ⟨u126, hinv⟩ := hinv
    obtain ⟨u127, hinv⟩ := hinv
    obtain ⟨u128, hinv⟩ := hinv
    obtain ⟨u129, hinv⟩ := hinv
    obtain ⟨u130, hinv⟩ := hinv
    obtain ⟨u131, hinv⟩ := hinv
    obtain ⟨u132, hinv⟩ := hinv
    obtain ⟨u133, hinv⟩ := hinv
    obtain ⟨u134, hinv⟩ := hinv
    obtain ⟨u135, hinv⟩ := hinv
    obtain ⟨u136, hinv⟩ := hinv
    obtain ⟨ds, hinv⟩ := hinv; obtain ⟨g, hinv⟩ := hinv; obtain ⟨t, hinv⟩ := hinv; obtain ⟨f, hinv⟩ := hinv
    obtain ⟨hrel, ha⟩ := hinv; subst ha; try dsimp only
    obtain ⟨rfl, hg, hq, hdn⟩ := hrel
    have HQ := Lib.hid hq; have HDN := Lib.hid hdn
    clear hq hdn
    have m0 := HQ.out.bf.cell (.head _) 0
    have hwr := HQ.out.size
    by_cases hlt : g < m.nw
    · have gi0 : (0 : Int) ≤ (g : Int) := by omega
      have gi8 : (g : Int) < 8 := by omega
      have hlt0 : w.heap.size < wr.heap.size := by omega
      have hg8 : g < 8 := by omega
      have HQ1 : Hid (AQ w ((wr.alloc (.cells #[.int .i64 (g : Int)] 3)).alloc (.cells #[.bool false, .bool false, .bool false, .bool false, .bool false, .bool false, .bool false, .bool false] 156)) x m t f ds [(wr.heap.size + 1, fl8 (fun _ => false), 156), (wr.heap.size, #[.int .i64 (g : Int)], 3)]) := by
        have h := (HQ.out.new #[.int .i64 (g : Int)] 3).new (fl8 (fun _ => false)) 156
        rw [World.size_alloc] at h
        exact h
      clear HQ
      go_wp2_with fail
      generalize ((wr.alloc (.cells #[.int .i64 (g : Int)] 3)).alloc (.cells #[.bool false, .bool false, .bool false, .bool false, .bool false, .bool false, .bool false, .bool false] 156)) = w1 at *
      have hGB4 : w.heap.size + 4 ≤ wr.heap.size := hwr
      generalize wr.heap.size = GB at *
      clear m0 hwr hlt0
      go_loopw [25] (fun i wx => ∃ k : Nat, i = .int .i64 k ∧ k ≤ m.nw ∧ ∃ t', AQ w wx x m t' f ds [(GB + 1, fl8 (fun _ => false), 156), (GB, #[.int .i64 (g : Int)], 3)] ∧ (∀ n q, q ≠ g → t' n q = t n q) ∧ ∀ n, n < k → t' n g = 1048576) (fun i _ => m.nw - (intOf i).toNat)
      case atStart => exact ⟨0, rfl, Nat.zero_le _, t, HQ1.out, fun _ _ _ => rfl, fun _ h => absurd h (Nat.not_lt_zero _)⟩
      case round =>
        clear HQ1
        obtain ⟨k, rfl, hk, t', hq, ht1, ht2⟩ := hrel
        have HQ2 := Lib.hid hq; have HT1 := Lib.hid ht1; have HT2 := Lib.hid ht2
        clear hq ht1 ht2
        by_cases hlk : k < m.nw
        · have ki : (0 : Int) ≤ (k : Int) := by omega
          have k8 : (k : Int) < 8 := by omega
          have hk8 : k < 8 := by omega
          have kj : (k : Int) < (m.nw : Int) := by omega
          have HC9 : Hid (∀ X t f, AQ w X x m t f ds [(GB + 1, fl8 (fun _ => false), 156), (GB, #[.int .i64 (g : Int)], 3)] → X.cell? ⟨w.heap.size + 3, 0, none⟩ = some (.pointer (some ⟨w.heap.size + 2, 0, none⟩)) ∧ X.cell? ⟨GB, 0, none⟩ = some (.int .i64 (g : Int))) := fun X t f hX => ⟨hX.bf.cell (.tail _ (.tail _ (.head _))) 0, hX.bf.cell (.tail _ (.tail _ (.tail _ (.tail _ (.head _))))) 0⟩
          go_upto_region 9 with fail
          have HAX : Hid (AQ w wr.drew x m t' f ds [(GB + 1, fl8 (fun _ => false), 156), (GB, #[.int .i64 (g : Int)], 3)]) := HQ2.out.below (Below.refl _ _).drew
          refine wp_region_held_drew (S := fun X => X.cell? ⟨w.heap.size + 3, 0, none⟩ = some (.pointer (some ⟨w.heap.size + 2, 0, none⟩)) ∧ X.cell? ⟨GB, 0, none⟩ = some (.int .i64 (g : Int))) (by kernel_rfl) (HC9.out _ _ _ HAX.out) (fun hS => ?_)
          generalize wr.drew = X at *
          clear HQ2
          refine tk [0, 1, 2, 3, 4, 5, 6] ?_
          repeat (refine tkH (oi := ⟨_, _, _, _, _, _⟩) (v := ?_) rfl (by kernel_rfl) (by rfl) (fun _ _ _ h => h) hS ?_ ?_; rotate_left; (· rintro W' ⟨z0, z1⟩; go_simp; try with_reducible rfl); try simp only [Act.put, putA, putZ, putS])
          refine tk0 ?_
          refine wpAnyH_ready (rs := [7]) (by kernel_rfl) (by simp) ?_
          refine AllReadyH.cons (o := ⟨none, _, _, _, _, _⟩) rfl (fun K hK => ?_) AllReadyH.nil
          have e0 := (HAX.out.bf.cell (.tail _ (.head _)) (2 + k * 8 + g)).trans (atA_t x m (t') (f) _ hk8 hg8)
          have f0 := HAX.out.bf.thaw (.tail _ (.head _)) (2 + k * 8 + g)
          have HA0 := Lib.hid (HAX.out.setT hk8 hg8 (1048576))
          go_simp
          refine hK.out _ _ (HC9.out _ _ _ HA0.out) (fun hS => ?_)
          clear hK K
          (try simp only [Act.put])
          clear e0 f0
          refine wpAnyH_done (by kernel_rfl) ?_ _
          go_wp2_with fail
          go_roundw
          case rel => exact ⟨k + 1, by go_num, by omega, upd2 t' k g 1048576, HA0.out, fun n q hq => (upd2_ne _ _ (fun h => hq h.2)).trans (HT1.out n q hq), fun n hn => by rcases Nat.lt_succ_iff_lt_or_eq.1 hn with h | rfl; exact (upd2_ne _ _ (by omega)).trans (HT2.out n h); exact upd2_eq _ _ _ _⟩
          case measure => simp [intOf]; omega
        · obtain rfl : k = m.nw := by omega
          have HCM : Hid (Colm m g (rounds m g 0).t t f (upd2 t' g g 0) (upd2 f g g g)) := Colm.start HDN.out HT1.out HT2.out
          have HC11 : Hid (∀ X t f, AQ w X x m t f ds [(GB + 1, fl8 (fun _ => false), 156), (GB, #[.int .i64 (g : Int)], 3)] → X.cell? ⟨w.heap.size + 3, 0, none⟩ = some (.pointer (some ⟨w.heap.size + 2, 0, none⟩)) ∧ X.cell? ⟨GB, 0, none⟩ = some (.int .i64 (g : Int))) := fun X t f hX => ⟨hX.bf.cell (.tail _ (.tail _ (.head _))) 0, hX.bf.cell (.tail _ (.tail _ (.tail _ (.tail _ (.head _))))) 0⟩
          go_upto_region 11 with fail
          have HAX : Hid (AQ w wr.drew x m t' f ds [(GB + 1, fl8 (fun _ => false), 156), (GB, #[.int .i64 (g : Int)], 3)]) := HQ2.out.below (Below.refl _ _).drew
          refine wp_region_held_drew (S := fun X => X.cell? ⟨w.heap.size + 3, 0, none⟩ = some (.pointer (some ⟨w.heap.size + 2, 0, none⟩)) ∧ X.cell? ⟨GB, 0, none⟩ = some (.int .i64 (g : Int))) (by kernel_rfl) (HC11.out _ _ _ HAX.out) (fun hS => ?_)
          generalize wr.drew = X at *
          clear HQ2
          refine tk [0, 1, 2, 3, 4, 5, 6, 7, 8, 9, 10, 12, 13, 14] ?_
          repeat (refine tkH (oi := ⟨_, _, _, _, _, _⟩) (v := ?_) rfl (by kernel_rfl) (by rfl) (fun _ _ _ h => h) hS ?_ ?_; rotate_left; (· rintro W' ⟨z0, z1⟩; go_simp; try with_reducible rfl); try simp only [Act.put, putA, putZ, putS])
          refine tk0 ?_
          refine wpAnyH_ready (rs := [11]) (by kernel_rfl) (by simp) ?_
          refine AllReadyH.cons (o := ⟨none, _, _, _, _, _⟩) rfl (fun K hK => ?_) AllReadyH.nil
          have e0 := (HAX.out.bf.cell (.tail _ (.head _)) (2 + g * 8 + g)).trans (atA_t x m (t') (f) _ hg8 hg8)
          have f0 := HAX.out.bf.thaw (.tail _ (.head _)) (2 + g * 8 + g)
          have HA0 := Lib.hid (HAX.out.setT hg8 hg8 (0))
          go_simp
          refine hK.out _ _ (HC11.out _ _ _ HA0.out) (fun hS => ?_)
          clear hK K
          (try simp only [Act.put])
          clear e0 f0
          refine tH 15 (oi := ⟨_, _, _, _, _, _⟩) (v := ?_) rfl (by kernel_rfl) (by rfl) (fun _ _ _ h => h) hS ?_ ?_
          rotate_left
          · rintro W' ⟨z0, z1⟩; go_simp; try with_reducible rfl
          try simp only [Act.put, putA, putZ, putS]
          refine wpAnyH_ready (rs := [16]) (by kernel_rfl) (by simp) ?_
          refine AllReadyH.cons (o := ⟨none, _, _, _, _, _⟩) rfl (fun K hK => ?_) AllReadyH.nil
          have e0 := (HA0.out.bf.cell (.tail _ (.head _)) (66 + g * 8 + g)).trans (atA_f x m (upd2 (t') g g (0)) (f) _ hg8 hg8)
          have f0 := HA0.out.bf.thaw (.tail _ (.head _)) (66 + g * 8 + g)
          have HA1 := Lib.hid (HA0.out.setF hg8 hg8 ((g : Int)))
          go_simp
          refine hK.out _ _ (HC11.out _ _ _ HA1.out) (fun hS => ?_)
          clear hK K
          (try simp only [Act.put])
          clear e0 f0
          refine wpAnyH_done (by kernel_rfl) ?_ _
          have HQ3 := Lib.hid HA1.out
          generalize ((X.setCell ⟨w.heap.size + 2, 2 + g * 8 + g, none⟩ (.int .i64 (0))).setCell ⟨w.heap.size + 2, 66 + g * 8 + g, none⟩ (.int .i64 ((g : Int)))) = w3 at *
          clear HT1 HT2 HC11 HAX hS
          have m0 := HQ3.out.bf.cell (.head _) 0
          go_wp2_with fail
          clear m0
          refine wp_loop (fun a' X => ∃ (u0 u2 u6 u7 u8 u9 u10 u11 u12 u13 u14 u15 u16 u17 u20 u21 u22 u23 u24 u25 u26 u27 u28 u29 u30 u31 u32 u33 u34 u35 u36 u37 u38 u39 u40 u41 u42 u43 u44 u45 u46 u47 u48 u49 u50 u51 u52 u54 u55 u56 u57 u58 u59 u60 u61 u62 u63 u64 u65 u66 u67 u68 u69 u70 u71 u72 u73 u74 u75 u76 u77 u78 u79 u80 u81 u82 u83 u84 u85 u86 u87 u88 u89 u90 u91 u92 u93 u94 u95 u96 u97 u98 u99 u100 u101 u102 u103 u104 u105 u106 u107 u108 u109 u110 u111 u112 u113 u114 u115 u116 u117 u118 u119 u120 u121 u122 u123 u124 u125 u126 u127 u128 u129 u130 u131 u132 u133 u134 u135 u136 : Value) (ds' : List Deferred) (r : Nat) (t' f' : Nat → Nat → Int), (u54 = .int .i64 r ∧ r ≤ m.nw ∧ AQ w X x m t' f' ds' [(GB + 1, fl8 (rounds m g r).S, 156), (GB, #[.int .i64 (g : Int)], 3)] ∧ Colm m g (rounds m g r).t t f t' f') ∧ a' = { tmps := #[u0, .pointer (some ⟨w.heap.size, 0, none⟩), u2, .pointer (some ⟨w.heap.size + 3, 0, none⟩), .pointer (some ⟨GB, 0, none⟩), .pointer (some ⟨GB + 1, 0, none⟩), u6, u7, u8, u9, u10, u11, u12, u13, u14, u15, u16, u17, .int .i64 m.nw, .int .i64 (g : Int), u20, u21, u22, u23, u24, u25, u26, u27, u28, u29, u30, u31, u32, u33, u34, u35, u36, u37, u38, u39, u40, u41, u42, u43, u44, u45, u46, u47, u48, u49, u50, u51, u52, .int .i64 m.nw, u54, u55, u56, u57, u58, u59, u60, u61, u62, u63, u64, u65, u66, u67, u68, u69, u70, u71, u72, u73, u74, u75, u76, u77, u78, u79, u80, u81, u82, u83, u84, u85, u86, u87, u88, u89, u90, u91, u92, u93, u94, u95, u96, u97, u98, u99, u100, u101, u102, u103, u104, u105, u106, u107, u108, u109, u110, u111, u112, u113, u114, u115, u116, u117, u118, u119, u120, u121, u122, u123, u124, u125, u126, u127, u128, u129, u130, u131, u132, u133, u134, u135, u136], defers := ds' }) (fun a' _ => m.nw - (intOf (a'.tmps.getD 54 undef)).toNat) ?start ?round
          case start => exact ⟨_, _, _, _, _, _, _, _, _, _, _, _, _, _, _, _, _, _, _, _, _, _, _, _, _, _, _, _, _, _, _, _, _, _, _, _, _, _, _, _, _, _, _, _, _, _, _, _, _, _, _, _, _, _, _, _, _, _, _, _, _, _, _, _, _, _, _, _, _, _, _, _, _, _, _, _, _, _, _, _, _, _, _, _, _, _, _, _, _, _, _, _, _, _, _, _, _, _, _, _, _, _, _, _, _, _, _, _, _, _, _, _, _, _, _, _, _, _, _, _, _, _, _, _, _, _, _, _, _, _, ds, 0, _, _, ⟨rfl, Nat.zero_le _, HQ3.out, HCM.out⟩, rfl⟩
          case round =>
            clear HQ3 HCM
            intro _ wr hinv
            obtain ⟨u0, hinv⟩ := hinv
            obtain ⟨u2, hinv⟩ := hinv
            obtain ⟨u6, hinv⟩ := hinv
            obtain ⟨u7, hinv⟩ := hinv
            obtain ⟨u8, hinv⟩ := hinv
            obtain ⟨u9, hinv⟩ := hinv
            obtain ⟨u10, hinv⟩ := hinv
            obtain ⟨u11, hinv⟩ := hinv
            obtain ⟨u12, hinv⟩ := hinv
            obtain ⟨u13, hinv⟩ := hinv
            obtain ⟨u14, hinv⟩ := hinv
            obtain ⟨u15, hinv⟩ := hinv
            obtain ⟨u16, hinv⟩ := hinv
            obtain ⟨u17, hinv⟩ := hinv
            obtain ⟨u20, hinv⟩ := hinv
            obtain ⟨u21, hinv⟩ := hinv
            obtain ⟨u22, hinv⟩ := hinv
            obtain ⟨u23, hinv⟩ := hinv
            obtain ⟨u24, hinv⟩ := hinv
            obtain ⟨u25, hinv⟩ := hinv
            obtain ⟨u26, hinv⟩ := hinv
            obtain ⟨u27, hinv⟩ := hinv
            obtain ⟨u28, hinv⟩ := hinv
            obtain ⟨u29, hinv⟩ := hinv
            obtain ⟨u30, hinv⟩ := hinv
            obtain ⟨u31, hinv⟩ := hinv
            obtain ⟨u32, hinv⟩ := hinv
            obtain ⟨u33, hinv⟩ := hinv
            obtain ⟨u34, hinv⟩ := hinv
            obtain ⟨u35, hinv⟩ := hinv
            obtain ⟨u36, hinv⟩ := hinv
            obtain ⟨u37, hinv⟩ := hinv
            obtain ⟨u38, hinv⟩ := hinv
            obtain ⟨u39, hinv⟩ := hinv
            obtain ⟨u40, hinv⟩ := hinv
            obtain ⟨u41, hinv⟩ := hinv
            obtain ⟨u42, hinv⟩ := hinv
            obtain ⟨u43, hinv⟩ := hinv
            obtain ⟨u44, hinv⟩ := hinv
            obtain ⟨u45, hinv⟩ := hinv
            obtain ⟨u46, hinv⟩ := hinv
            obtain ⟨u47, hinv⟩ := hinv
            obtain ⟨u48, hinv⟩ := hinv
            obtain ⟨u49, hinv⟩ := hinv
            obtain ⟨u50, hinv⟩ := hinv
            obtain ⟨u51, hinv⟩ := hinv
            obtain ⟨u52, hinv⟩ := hinv
            obtain ⟨u54, hinv⟩ := hinv
            obtain ⟨u55, hinv⟩ := hinv
            obtain ⟨u56, hinv⟩ := hinv
            obtain ⟨u57, hinv⟩ := hinv
            obtain ⟨u58, hinv⟩ := hinv
            obtain ⟨u59, hinv⟩ := hinv
            obtain ⟨u60, hinv⟩ := hinv
            obtain ⟨u61, hinv⟩ := hinv
            obtain ⟨u62, hinv⟩ := hinv
            obtain ⟨u63, hinv⟩ := hinv
            obtain ⟨u64, hinv⟩ := hinv
            obtain ⟨u65, hinv⟩ := hinv
            obtain ⟨u66, hinv⟩ := hinv
            obtain ⟨u67, hinv⟩ := hinv
            obtain ⟨u68, hinv⟩ := hinv
            obtain ⟨u69, hinv⟩ := hinv
            obtain ⟨u70, hinv⟩ := hinv
            obtain ⟨u71, hinv⟩ := hinv
            obtain ⟨u72, hinv⟩ := hinv
            obtain ⟨u73, hinv⟩ := hinv
            obtain ⟨u74, hinv⟩ := hinv
            obtain ⟨u75, hinv⟩ := hinv
            obtain ⟨u76, hinv⟩ := hinv
            obtain ⟨u77, hinv⟩ := hinv
            obtain ⟨u78, hinv⟩ := hinv
            obtain ⟨u79, hinv⟩ := hinv
            obtain ⟨u80, hinv⟩ := hinv
            obtain ⟨u81, hinv⟩ := hinv
            obtain ⟨u82, hinv⟩ := hinv
            obtain ⟨u83, hinv⟩ := hinv
            obtain ⟨u84, hinv⟩ := hinv
            obtain ⟨u85, hinv⟩ := hinv
            obtain ⟨u86, hinv⟩ := hinv
            obtain ⟨u87, hinv⟩ := hinv
            obtain ⟨u88, hinv⟩ := hinv
            obtain ⟨u89, hinv⟩ := hinv
            obtain ⟨u90, hinv⟩ := hinv
            obtain ⟨u91, hinv⟩ := hinv
            obtain ⟨u92, hinv⟩ := hinv
            obtain ⟨u93, hinv⟩ := hinv
            obtain ⟨u94, hinv⟩ := hinv
            obtain ⟨u95, hinv⟩ := hinv
            obtain ⟨u96, hinv⟩ := hinv
            obtain ⟨u97, hinv⟩ := hinv
            obtain ⟨u98, hinv⟩ := hinv
            obtain ⟨u99, hinv⟩ := hinv
            obtain ⟨u100, hinv⟩ := hinv
            obtain ⟨u101, hinv⟩ := hinv
            obtain ⟨u102, hinv⟩ := hinv
            obtain ⟨u103, hinv⟩ := hinv
            obtain ⟨u104, hinv⟩ := hinv
            obtain ⟨u105, hinv⟩ := hinv
            obtain ⟨u106, hinv⟩ := hinv
            obtain ⟨u107, hinv⟩ := hinv
            obtain ⟨u108, hinv⟩ := hinv
            obtain ⟨u109, hinv⟩ := hinv
            obtain ⟨u110, hinv⟩ := hinv
            obtain ⟨u111, hinv⟩ := hinv
            obtain ⟨u112, hinv⟩ := hinv
            obtain ⟨u113, hinv⟩ := hinv
            obtain ⟨u114, hinv⟩ := hinv
            obtain ⟨u115, hinv⟩ := hinv
            obtain ⟨u116, hinv⟩ := hinv
            obtain ⟨u117, hinv⟩ := hinv
            obtain ⟨u118, hinv⟩ := hinv
            obtain ⟨u119, hinv⟩ := hinv
            obtain ⟨u120, hinv⟩ := hinv
            obtain ⟨u121, hinv⟩ := hinv
            obtain ⟨u122, hinv⟩ := hinv
            obtain ⟨u123, hinv⟩ := hinv
            obtain ⟨u124, hinv⟩ := hinv
            obtain ⟨u125, hinv⟩ := hinv
            obtain ⟨u126, hinv⟩ := hinv
            obtain ⟨u127, hinv⟩ := hinv
            obtain ⟨u128, hinv⟩ := hinv
            obtain ⟨u129, hinv⟩ := hinv
            obtain ⟨u130, hinv⟩ := hinv
            obtain ⟨u131, hinv⟩ := hinv
            obtain ⟨u132, hinv⟩ := hinv
            obtain ⟨u133, hinv⟩ := hinv
            obtain ⟨u134, hinv⟩ := hinv
            obtain ⟨u135, hinv⟩ := hinv
            obtain ⟨u136, hinv⟩ := hinv
            obtain ⟨ds', hinv⟩ := hinv; obtain ⟨r, hinv⟩ := hinv; obtain ⟨t', hinv⟩ := hinv; obtain ⟨f', hinv⟩ := hinv
            obtain ⟨hrel, ha⟩ := hinv; subst ha; try dsimp only
            obtain ⟨rfl, hr, hq, hcm⟩ := hrel
            have HQ := Lib.hid hq; have HCM := Lib.hid hcm
            clear hq hcm
            by_cases hlr : r < m.nw
            · obtain ⟨i, hi, hne, hsi, hmin⟩ := srch_near (srch_all HOK.out hlt r (by omega)) hlr
              have HBD := Lib.hid (srch_all HOK.out hlt r (by omega)).bd
              have HRN : Hid ((rounds m g (r + 1)).t = relaxL m i (atL m i) ((rounds m g r).t.1, (rounds m g r).t.2) ∧ (rounds m g (r + 1)).S = upd (rounds m g r).S i true) := by
                have e : (rounds m g r).near m = i := by simp [Sr.near, hne]
                refine ⟨?_, ?_⟩
                · show relaxN m ((rounds m g r).near m) m.nr (rounds m g r).t = _
                  rw [e, relaxN_at]
                · show upd (rounds m g r).S ((rounds m g r).near m) true = _
                  rw [e]
              have HNI := Lib.hid hne; have HSI := Lib.hid hsi
              clear hne hsi hmin
              generalize hR : rounds m g r = R at HQ HCM HBD HRN HNI HSI ⊢
              have HRR := Lib.hid hR
              clear hR
              obtain ⟨⟨T, FF⟩, SS⟩ := R
              simp only at HQ HCM HBD HRN HNI HSI
              have hi8 : i < 8 := by omega
              have m0 := HQ.out.bf.cell (.head _) 0
              have hwr := HQ.out.size
              have hlt0 : w.heap.size < wr.heap.size := by omega
              have hNB : GB + 1 < wr.heap.size := (HQ.out.bf.lt (.tail _ (.tail _ (.tail _ (.head _))))).2
              have HQ1 := Lib.hid (HQ.out.new #[.int .i64 (-1)] 3)
              clear HQ
              go_wp2_with fail
              clear m0
              generalize wr.alloc (.cells #[.int .i64 (-1)] 3) = w4 at *
              generalize wr.heap.size = NB at *
              clear hlt0
              go_loopw [59] (fun i wx => ∃ k : Nat, i = .int .i64 k ∧ k ≤ m.nw ∧ AQ w wx x m t' f' ds' ((NB, #[.int .i64 (nearN T SS k)], 3) :: [(GB + 1, fl8 SS, 156), (GB, #[.int .i64 (g : Int)], 3)])) (fun i _ => m.nw - (intOf i).toNat)
              case atStart => exact ⟨0, rfl, Nat.zero_le _, HQ1.out⟩
              case round =>
                clear HQ1
                obtain ⟨k, rfl, hk, hq⟩ := hrel
                have HQ2 := Lib.hid hq
                clear hq
                have HHL : Hid (∀ p, p ∈ [(GB + 1, fl8 SS, 156), (GB, #[.int .i64 (g : Int)], 3)] → p.1 ≠ NB) := List.forall_mem_cons.2 ⟨by show GB + 1 ≠ NB; omega, List.forall_mem_cons.2 ⟨by show GB ≠ NB; omega, List.forall_mem_nil _⟩⟩
                by_cases hlk : k < m.nw
                · have ki : (0 : Int) ≤ (k : Int) := by omega
                  have k8 : (k : Int) < 8 := by omega
                  have hk8 : k < 8 := by omega
                  have kj : (k : Int) < (m.nw : Int) := by omega
                  have HNX : Hid (nearN T SS (k + 1) = if SS k = false ∧ (nearN T SS k < 0 ∨ T k < T (nearN T SS k).toNat) then (k : Int) else nearN T SS k) := rfl
                  have HTK := Lib.hid (HCM.out.1 k hlk).1
                  have hor := nearN_or T SS k
                  generalize hqn : nearN T SS k = qn at *
                  have HC18 : Hid (∀ X, AQ w X x m t' f' ds' ((NB, #[.int .i64 qn], 3) :: [(GB + 1, fl8 SS, 156), (GB, #[.int .i64 (g : Int)], 3)]) → X.cell? ⟨w.heap.size + 3, 0, none⟩ = some (.pointer (some ⟨w.heap.size + 2, 0, none⟩)) ∧ X.cell? ⟨GB, 0, none⟩ = some (.int .i64 (g : Int)) ∧ X.cell? ⟨NB, 0, none⟩ = some (.int .i64 qn) ∧ X.cell? ⟨GB + 1, k, none⟩ = some (.bool (SS k))) := fun X hX => ⟨hX.bf.cell (.tail _ (.tail _ (.head _))) 0, hX.bf.cell (.tail _ (.tail _ (.tail _ (.tail _ (.tail _ (.head _)))))) 0, hX.bf.cell (.tail _ (.tail _ (.tail _ (.head _)))) 0, (hX.bf.cell (.tail _ (.tail _ (.tail _ (.tail _ (.head _))))) k).trans (fl8_get SS hk8)⟩
                  have HAX : Hid (AQ w wr.drew x m t' f' ds' ((NB, #[.int .i64 qn], 3) :: [(GB + 1, fl8 SS, 156), (GB, #[.int .i64 (g : Int)], 3)])) := HQ2.out.below (Below.refl _ _).drew
                  cases hsk : SS k
                  case true =>
                    rw [hsk] at HC18
                    have HN2 : Hid (nearN T SS (k + 1) = qn) := by rw [HNX.out, hsk]; rfl
                    clear HNX hor hqn hsk
                    go_upto_region 18 with fail
                    refine wp_region_held_drew (S := fun X => X.cell? ⟨w.heap.size + 3, 0, none⟩ = some (.pointer (some ⟨w.heap.size + 2, 0, none⟩)) ∧ X.cell? ⟨GB, 0, none⟩ = some (.int .i64 (g : Int)) ∧ X.cell? ⟨NB, 0, none⟩ = some (.int .i64 qn) ∧ X.cell? ⟨GB + 1, k, none⟩ = some (.bool true)) (by kernel_rfl) (HC18.out _ HAX.out) (fun hS => ?_)
                    generalize wr.drew = X at *
                    clear HQ2
                    refine tk [0, 1, 2, 3, 4] ?_
                    repeat (refine tkH (oi := ⟨_, _, _, _, _, _⟩) (v := ?_) rfl (by kernel_rfl) (by rfl) (fun _ _ _ h => h) hS ?_ ?_; rotate_left; (· rintro W' ⟨z0, z1, z2, z3⟩; go_simp; try with_reducible rfl); try simp only [Act.put, putA, putZ, putS])
                    refine tk0 ?_
                    refine wpAnyH_take (i := 5) (oi := ⟨some 67, _, _, _, _, _⟩) (v := undef) rfl (by kernel_rfl) (by kernel_rfl) (by kernel_rfl) (fun _ _ _ h => h) (Or.inr ⟨by rfl, rfl⟩) hS ?_
                    try simp only [Act.put, putA, putZ, putS]
                    refine wpAnyH_take (i := 6) (oi := ⟨some 68, _, _, _, _, _⟩) (v := undef) rfl (by kernel_rfl) (by kernel_rfl) (by kernel_rfl) (fun _ _ _ h => h) (Or.inr ⟨by rfl, rfl⟩) hS ?_
                    try simp only [Act.put, putA, putZ, putS]
                    refine wpAnyH_take (i := 7) (oi := ⟨some 69, _, _, _, _, _⟩) (v := undef) rfl (by kernel_rfl) (by kernel_rfl) (by kernel_rfl) (fun _ _ _ h => h) (Or.inr ⟨by rfl, rfl⟩) hS ?_
                    try simp only [Act.put, putA, putZ, putS]
                    refine wpAnyH_take (i := 8) (oi := ⟨some 70, _, _, _, _, _⟩) (v := undef) rfl (by kernel_rfl) (by kernel_rfl) (by kernel_rfl) (fun _ _ _ h => h) (Or.inr ⟨by rfl, rfl⟩) hS ?_
                    try simp only [Act.put, putA, putZ, putS]
                    refine wpAnyH_take (i := 9) (oi := ⟨some 71, _, _, _, _, _⟩) (v := undef) rfl (by kernel_rfl) (by kernel_rfl) (by kernel_rfl) (fun _ _ _ h => h) (Or.inr ⟨by rfl, rfl⟩) hS ?_
                    try simp only [Act.put, putA, putZ, putS]
                    refine wpAnyH_take (i := 10) (oi := ⟨some 72, _, _, _, _, _⟩) (v := undef) rfl (by kernel_rfl) (by kernel_rfl) (by kernel_rfl) (fun _ _ _ h => h) (Or.inr ⟨by rfl, rfl⟩) hS ?_
                    try simp only [Act.put, putA, putZ, putS]
                    refine wpAnyH_take (i := 11) (oi := ⟨some 73, _, _, _, _, _⟩) (v := undef) rfl (by kernel_rfl) (by kernel_rfl) (by kernel_rfl) (fun _ _ _ h => h) (Or.inr ⟨by rfl, rfl⟩) hS ?_
                    try simp only [Act.put, putA, putZ, putS]
                    refine wpAnyH_take (i := 12) (oi := ⟨some 74, _, _, _, _, _⟩) (v := undef) rfl (by kernel_rfl) (by kernel_rfl) (by kernel_rfl) (fun _ _ _ h => h) (Or.inr ⟨by rfl, rfl⟩) hS ?_
                    try simp only [Act.put, putA, putZ, putS]
                    refine wpAnyH_take (i := 13) (oi := ⟨some 75, _, _, _, _, _⟩) (v := undef) rfl (by kernel_rfl) (by kernel_rfl) (by kernel_rfl) (fun _ _ _ h => h) (Or.inr ⟨by rfl, rfl⟩) hS ?_
                    try simp only [Act.put, putA, putZ, putS]
                    refine wpAnyH_take (i := 14) (oi := ⟨some 76, _, _, _, _, _⟩) (v := undef) rfl (by kernel_rfl) (by kernel_rfl) (by kernel_rfl) (fun _ _ _ h => h) (Or.inr ⟨by rfl, rfl⟩) hS ?_
                    try simp only [Act.put, putA, putZ, putS]
                    refine wpAnyH_take (i := 15) (oi := ⟨some 77, _, _, _, _, _⟩) (v := undef) rfl (by kernel_rfl) (by kernel_rfl) (by kernel_rfl) (fun _ _ _ h => h) (Or.inr ⟨by rfl, rfl⟩) hS ?_
                    try simp only [Act.put, putA, putZ, putS]
                    refine wpAnyH_take (i := 16) (oi := ⟨some 78, _, _, _, _, _⟩) (v := undef) rfl (by kernel_rfl) (by kernel_rfl) (by kernel_rfl) (fun _ _ _ h => h) (Or.inr ⟨by rfl, rfl⟩) hS ?_
                    try simp only [Act.put, putA, putZ, putS]
                    refine wpAnyH_take (i := 17) (oi := ⟨some 79, _, _, _, _, _⟩) (v := undef) rfl (by kernel_rfl) (by kernel_rfl) (by kernel_rfl) (fun _ _ _ h => h) (Or.inr ⟨by rfl, rfl⟩) hS ?_
                    try simp only [Act.put, putA, putZ, putS]
                    refine wpAnyH_take (i := 18) (oi := ⟨some 80, _, _, _, _, _⟩) (v := undef) rfl (by kernel_rfl) (by kernel_rfl) (by kernel_rfl) (fun _ _ _ h => h) (Or.inr ⟨by rfl, rfl⟩) hS ?_
                    try simp only [Act.put, putA, putZ, putS]
                    refine wpAnyH_take (i := 19) (oi := ⟨some 81, _, _, _, _, _⟩) (v := undef) rfl (by kernel_rfl) (by kernel_rfl) (by kernel_rfl) (fun _ _ _ h => h) (Or.inr ⟨by rfl, rfl⟩) hS ?_
                    try simp only [Act.put, putA, putZ, putS]
                    refine wpAnyH_take (i := 20) (oi := ⟨some 82, _, _, _, _, _⟩) (v := undef) rfl (by kernel_rfl) (by kernel_rfl) (by kernel_rfl) (fun _ _ _ h => h) (Or.inr ⟨by rfl, rfl⟩) hS ?_
                    try simp only [Act.put, putA, putZ, putS]
                    refine wpAnyH_take (i := 21) (oi := ⟨some 83, _, _, _, _, _⟩) (v := undef) rfl (by kernel_rfl) (by kernel_rfl) (by kernel_rfl) (fun _ _ _ h => h) (Or.inr ⟨by rfl, rfl⟩) hS ?_
                    try simp only [Act.put, putA, putZ, putS]
                    refine wpAnyH_take (i := 22) (oi := ⟨some 84, _, _, _, _, _⟩) (v := undef) rfl (by kernel_rfl) (by kernel_rfl) (by kernel_rfl) (fun _ _ _ h => h) (Or.inr ⟨by rfl, rfl⟩) hS ?_
                    try simp only [Act.put, putA, putZ, putS]
                    refine wpAnyH_take (i := 23) (oi := ⟨some 85, _, _, _, _, _⟩) (v := undef) rfl (by kernel_rfl) (by kernel_rfl) (by kernel_rfl) (fun _ _ _ h => h) (Or.inr ⟨by rfl, rfl⟩) hS ?_
                    try simp only [Act.put, putA, putZ, putS]
                    refine wpAnyH_take (i := 24) (oi := ⟨some 86, _, _, _, _, _⟩) (v := undef) rfl (by kernel_rfl) (by kernel_rfl) (by kernel_rfl) (fun _ _ _ h => h) (Or.inr ⟨by rfl, rfl⟩) hS ?_
                    try simp only [Act.put, putA, putZ, putS]
                    refine wpAnyH_take (i := 25) (oi := ⟨some 87, _, _, _, _, _⟩) (v := undef) rfl (by kernel_rfl) (by kernel_rfl) (by kernel_rfl) (fun _ _ _ h => h) (Or.inr ⟨by rfl, rfl⟩) hS ?_
                    try simp only [Act.put, putA, putZ, putS]
                    refine tH 26 (oi := ⟨_, _, _, _, _, _⟩) (v := ?_) rfl (by kernel_rfl) (by rfl) (fun _ _ _ h => h) hS ?_ ?_
                    rotate_left
                    · rintro W' ⟨z0, z1, z2, z3⟩; go_simp; try with_reducible rfl
                    try simp only [Act.put, putA, putZ, putS]
                    refine wpAnyH_done (by kernel_rfl) ?_ _
                    go_wp2_with fail
                    go_roundw
                    case rel => exact ⟨k + 1, by go_num, by omega, by rw [HN2.out]; exact HAX.out⟩
                    case measure => simp [intOf]; omega
                  rw [hsk] at HC18
                  rcases hor with ⟨hq1, _⟩ | ⟨j, hj, hq1, _, _⟩
                  · have e1 : qn = -1 := hq1
                    have HN2 : Hid (nearN T SS (k + 1) = (k : Int)) := HNX.out.trans (if_pos ⟨hsk, .inl (by omega)⟩)
                    clear HNX hqn hsk hq1
                    subst e1
                    go_upto_region 18 with fail
                    refine wp_region_held_drew (S := fun X => X.cell? ⟨w.heap.size + 3, 0, none⟩ = some (.pointer (some ⟨w.heap.size + 2, 0, none⟩)) ∧ X.cell? ⟨GB, 0, none⟩ = some (.int .i64 (g : Int)) ∧ X.cell? ⟨NB, 0, none⟩ = some (.int .i64 (-1)) ∧ X.cell? ⟨GB + 1, k, none⟩ = some (.bool false)) (by kernel_rfl) (HC18.out _ HAX.out) (fun hS => ?_)
                    generalize wr.drew = X at *
                    clear HQ2
                    refine tk [0, 1, 2, 3, 4, 5, 6, 7] ?_
                    repeat (refine tkH (oi := ⟨_, _, _, _, _, _⟩) (v := ?_) rfl (by kernel_rfl) (by rfl) (fun _ _ _ h => h) hS ?_ ?_; rotate_left; (· rintro W' ⟨z0, z1, z2, z3⟩; go_simp; try with_reducible rfl); try simp only [Act.put, putA, putZ, putS])
                    refine tk0 ?_
                    refine wpAnyH_take (i := 8) (oi := ⟨some 70, _, _, _, _, _⟩) (v := undef) rfl (by kernel_rfl) (by kernel_rfl) (by kernel_rfl) (fun _ _ _ h => h) (Or.inr ⟨by rfl, rfl⟩) hS ?_
                    try simp only [Act.put, putA, putZ, putS]
                    refine wpAnyH_take (i := 9) (oi := ⟨some 71, _, _, _, _, _⟩) (v := undef) rfl (by kernel_rfl) (by kernel_rfl) (by kernel_rfl) (fun _ _ _ h => h) (Or.inr ⟨by rfl, rfl⟩) hS ?_
                    try simp only [Act.put, putA, putZ, putS]
                    refine wpAnyH_take (i := 10) (oi := ⟨some 72, _, _, _, _, _⟩) (v := undef) rfl (by kernel_rfl) (by kernel_rfl) (by kernel_rfl) (fun _ _ _ h => h) (Or.inr ⟨by rfl, rfl⟩) hS ?_
                    try simp only [Act.put, putA, putZ, putS]
                    refine wpAnyH_take (i := 11) (oi := ⟨some 73, _, _, _, _, _⟩) (v := undef) rfl (by kernel_rfl) (by kernel_rfl) (by kernel_rfl) (fun _ _ _ h => h) (Or.inr ⟨by rfl, rfl⟩) hS ?_
                    try simp only [Act.put, putA, putZ, putS]
                    refine wpAnyH_take (i := 12) (oi := ⟨some 74, _, _, _, _, _⟩) (v := undef) rfl (by kernel_rfl) (by kernel_rfl) (by kernel_rfl) (fun _ _ _ h => h) (Or.inr ⟨by rfl, rfl⟩) hS ?_
                    try simp only [Act.put, putA, putZ, putS]
                    refine wpAnyH_take (i := 13) (oi := ⟨some 75, _, _, _, _, _⟩) (v := undef) rfl (by kernel_rfl) (by kernel_rfl) (by kernel_rfl) (fun _ _ _ h => h) (Or.inr ⟨by rfl, rfl⟩) hS ?_
                    try simp only [Act.put, putA, putZ, putS]
                    refine wpAnyH_take (i := 14) (oi := ⟨some 76, _, _, _, _, _⟩) (v := undef) rfl (by kernel_rfl) (by kernel_rfl) (by kernel_rfl) (fun _ _ _ h => h) (Or.inr ⟨by rfl, rfl⟩) hS ?_
                    try simp only [Act.put, putA, putZ, putS]
                    refine wpAnyH_take (i := 15) (oi := ⟨some 77, _, _, _, _, _⟩) (v := undef) rfl (by kernel_rfl) (by kernel_rfl) (by kernel_rfl) (fun _ _ _ h => h) (Or.inr ⟨by rfl, rfl⟩) hS ?_
                    try simp only [Act.put, putA, putZ, putS]
                    refine wpAnyH_take (i := 16) (oi := ⟨some 78, _, _, _, _, _⟩) (v := undef) rfl (by kernel_rfl) (by kernel_rfl) (by kernel_rfl) (fun _ _ _ h => h) (Or.inr ⟨by rfl, rfl⟩) hS ?_
                    try simp only [Act.put, putA, putZ, putS]
                    refine wpAnyH_take (i := 17) (oi := ⟨some 79, _, _, _, _, _⟩) (v := undef) rfl (by kernel_rfl) (by kernel_rfl) (by kernel_rfl) (fun _ _ _ h => h) (Or.inr ⟨by rfl, rfl⟩) hS ?_
                    try simp only [Act.put, putA, putZ, putS]
                    refine wpAnyH_take (i := 18) (oi := ⟨some 80, _, _, _, _, _⟩) (v := undef) rfl (by kernel_rfl) (by kernel_rfl) (by kernel_rfl) (fun _ _ _ h => h) (Or.inr ⟨by rfl, rfl⟩) hS ?_
                    try simp only [Act.put, putA, putZ, putS]
                    refine wpAnyH_take (i := 19) (oi := ⟨some 81, _, _, _, _, _⟩) (v := undef) rfl (by kernel_rfl) (by kernel_rfl) (by kernel_rfl) (fun _ _ _ h => h) (Or.inr ⟨by rfl, rfl⟩) hS ?_
                    try simp only [Act.put, putA, putZ, putS]
                    refine wpAnyH_take (i := 20) (oi := ⟨some 82, _, _, _, _, _⟩) (v := undef) rfl (by kernel_rfl) (by kernel_rfl) (by kernel_rfl) (fun _ _ _ h => h) (Or.inr ⟨by rfl, rfl⟩) hS ?_
                    try simp only [Act.put, putA, putZ, putS]
                    refine wpAnyH_take (i := 21) (oi := ⟨some 83, _, _, _, _, _⟩) (v := undef) rfl (by kernel_rfl) (by kernel_rfl) (by kernel_rfl) (fun _ _ _ h => h) (Or.inr ⟨by rfl, rfl⟩) hS ?_
                    try simp only [Act.put, putA, putZ, putS]
                    refine wpAnyH_take (i := 22) (oi := ⟨some 84, _, _, _, _, _⟩) (v := undef) rfl (by kernel_rfl) (by kernel_rfl) (by kernel_rfl) (fun _ _ _ h => h) (Or.inr ⟨by rfl, rfl⟩) hS ?_
                    try simp only [Act.put, putA, putZ, putS]
                    refine wpAnyH_take (i := 23) (oi := ⟨some 85, _, _, _, _, _⟩) (v := undef) rfl (by kernel_rfl) (by kernel_rfl) (by kernel_rfl) (fun _ _ _ h => h) (Or.inr ⟨by rfl, rfl⟩) hS ?_
                    try simp only [Act.put, putA, putZ, putS]
                    refine wpAnyH_take (i := 24) (oi := ⟨some 86, _, _, _, _, _⟩) (v := undef) rfl (by kernel_rfl) (by kernel_rfl) (by kernel_rfl) (fun _ _ _ h => h) (Or.inr ⟨by rfl, rfl⟩) hS ?_
                    try simp only [Act.put, putA, putZ, putS]
                    refine tk [25, 26] ?_
                    repeat (refine tkH (oi := ⟨_, _, _, _, _, _⟩) (v := ?_) rfl (by kernel_rfl) (by rfl) (fun _ _ _ h => h) hS ?_ ?_; rotate_left; (· rintro W' ⟨z0, z1, z2, z3⟩; go_simp; try with_reducible rfl); try simp only [Act.put, putA, putZ, putS])
                    refine tk0 ?_
                    refine wpAnyH_done (by kernel_rfl) ?_ _
                    have e0 := HAX.out.bf.cell (.tail _ (.tail _ (.tail _ (.head _)))) 0
                    have f0 := HAX.out.bf.thaw (.tail _ (.tail _ (.tail _ (.head _)))) 0
                    have HQS := Lib.hid (HAX.out.setL (i := 0) (cs' := #[.int .i64 (k : Int)]) (v := .int .i64 (k : Int)) (by simp) rfl HHL.out)
                    go_wp2_with fail
                    go_roundw
                    case rel => exact ⟨k + 1, by go_num, by omega, by rw [HN2.out]; exact HQS.out⟩
                    case measure => simp [intOf]; omega
                  have e1 : qn = (j : Int) := hq1
                  clear hq1 hqn
                  subst e1
                  have hj8 : j < 8 := by omega
                  have ji : (0 : Int) ≤ (j : Int) := by omega
                  have jn : ¬ (j : Int) < 0 := by omega
                  have j8 : (j : Int) < 8 := by omega
                  have HTJ := Lib.hid (HCM.out.1 j (by omega)).1
                  have HC19 : Hid (∀ X, AQ w X x m t' f' ds' ((NB, #[.int .i64 (j : Int)], 3) :: [(GB + 1, fl8 SS, 156), (GB, #[.int .i64 (g : Int)], 3)]) → X.cell? ⟨w.heap.size + 3, 0, none⟩ = some (.pointer (some ⟨w.heap.size + 2, 0, none⟩)) ∧ X.cell? ⟨GB, 0, none⟩ = some (.int .i64 (g : Int)) ∧ X.cell? ⟨NB, 0, none⟩ = some (.int .i64 (j : Int)) ∧ X.cell? ⟨GB + 1, k, none⟩ = some (.bool false) ∧ X.cell? ⟨w.heap.size + 2, 2 + k * 8 + g, none⟩ = some (.int .i64 (T k)) ∧ X.cell? ⟨w.heap.size + 2, 2 + j * 8 + g, none⟩ = some (.int .i64 (T j))) := fun X hX => by
                    obtain ⟨c0, c1, c2, c3⟩ := HC18.out X hX
                    refine ⟨c0, c1, c2, c3, ?_, ?_⟩
                    · exact ((hX.bf.cell (.tail _ (.head _)) (2 + k * 8 + g)).trans (atA_t x m t' f' _ hk8 hg8)).trans (by rw [HTK.out])
                    · exact ((hX.bf.cell (.tail _ (.head _)) (2 + j * 8 + g)).trans (atA_t x m t' f' _ hj8 hg8)).trans (by rw [HTJ.out])
                  have hnx := HNX.out
                  rw [hsk, Int.toNat_natCast] at hnx
                  have HNX2 := Lib.hid hnx
                  clear HNX hnx hsk HC18
                  go_upto_region 18 with fail
                  refine wp_region_held_drew (S := fun X => X.cell? ⟨w.heap.size + 3, 0, none⟩ = some (.pointer (some ⟨w.heap.size + 2, 0, none⟩)) ∧ X.cell? ⟨GB, 0, none⟩ = some (.int .i64 (g : Int)) ∧ X.cell? ⟨NB, 0, none⟩ = some (.int .i64 (j : Int)) ∧ X.cell? ⟨GB + 1, k, none⟩ = some (.bool false) ∧ X.cell? ⟨w.heap.size + 2, 2 + k * 8 + g, none⟩ = some (.int .i64 (T k)) ∧ X.cell? ⟨w.heap.size + 2, 2 + j * 8 + g, none⟩ = some (.int .i64 (T j))) (by kernel_rfl) (HC19.out _ HAX.out) (fun hS => ?_)
                  generalize wr.drew = X at *
                  clear HQ2
                  refine tk [0, 1, 2, 3, 4, 5, 6, 7, 8, 9, 10, 11, 12, 13, 14, 15, 16, 17, 18, 19, 20, 21, 22, 23, 24, 25, 26] ?_
                  repeat (refine tkH (oi := ⟨_, _, _, _, _, _⟩) (v := ?_) rfl (by kernel_rfl) (by rfl) (fun _ _ _ h => h) hS ?_ ?_; rotate_left; (· rintro W' ⟨z0, z1, z2, z3, z4, z5⟩; go_simp; try with_reducible rfl); try simp only [Act.put, putA, putZ, putS])
                  refine tk0 ?_
                  refine wpAnyH_done (by kernel_rfl) ?_ _
                  by_cases hcmp : T k < T j
                  · have HN2 : Hid (nearN T SS (k + 1) = (k : Int)) := HNX2.out.trans (if_pos ⟨rfl, .inr hcmp⟩)
                    have e0 := HAX.out.bf.cell (.tail _ (.tail _ (.tail _ (.head _)))) 0
                    have f0 := HAX.out.bf.thaw (.tail _ (.tail _ (.tail _ (.head _)))) 0
                    have HQS := Lib.hid (HAX.out.setL (i := 0) (cs' := #[.int .i64 (k : Int)]) (v := .int .i64 (k : Int)) (by simp) rfl HHL.out)
                    go_wp2_with fail
                    go_roundw
                    case rel => exact ⟨k + 1, by go_num, by omega, by rw [HN2.out]; exact HQS.out⟩
                    case measure => simp [intOf]; omega
                  · have HN2 : Hid (nearN T SS (k + 1) = (j : Int)) := HNX2.out.trans (if_neg (fun h => by rcases h.2 with h | h; exact jn h; exact hcmp h))
                    go_wp2_with fail
                    go_roundw
                    case rel => exact ⟨k + 1, by go_num, by omega, by rw [HN2.out]; exact HAX.out⟩
                    case measure => simp [intOf]; omega
                · obtain rfl : k = m.nw := by omega
                  rw [HNI.out] at HQ2
                  clear HNI
                  have hi0 : (0 : Int) ≤ (i : Int) := by omega
                  have hii : (i : Int) < 8 := by omega
                  have HQ3 : Hid (AQ w wr x m t' f' ds' ((GB + 1, fl8 SS, 156) :: [(NB, #[.int .i64 (i : Int)], 3), (GB, #[.int .i64 (g : Int)], 3)])) := HQ2.out.sub (List.forall_mem_cons.2 ⟨.tail _ (.head _), List.forall_mem_cons.2 ⟨.head _, List.forall_mem_cons.2 ⟨.tail _ (.tail _ (.head _)), List.forall_mem_nil _⟩⟩⟩)
                  have HQ4 : Hid (AQ w (wr.setCell ⟨GB + 1, i, none⟩ (.bool true)) x m t' f' ds' ((GB + 1, fl8 (upd SS i true), 156) :: [(NB, #[.int .i64 (i : Int)], 3), (GB, #[.int .i64 (g : Int)], 3)])) := HQ3.out.setL (i := i) (by simp [fl8]; exact hi8) (fl8_set SS hi8 true) (List.forall_mem_cons.2 ⟨by show NB ≠ GB + 1; omega, List.forall_mem_cons.2 ⟨by show GB ≠ GB + 1; omega, List.forall_mem_nil _⟩⟩)
                  have n0 := HQ3.out.bf.cell (.tail _ (.tail _ (.tail _ (.tail _ (.head _))))) 0
                  have s0 := (HQ3.out.bf.cell (.tail _ (.tail _ (.tail _ (.head _)))) i).trans (fl8_get SS hi8)
                  have z0 := HQ3.out.bf.thaw (.tail _ (.tail _ (.tail _ (.head _)))) i
                  have q0 := HQ4.out.bf.cell (.head _) 0
                  have q1 := HQ4.out.bf.cell (.head _) 1
                  have q2 := HQ4.out.bf.cell (.tail _ (.tail _ (.tail _ (.tail _ (.head _))))) 0
                  clear HQ2 HQ3
                  go_wp2_with (go_at_call 97; refine (next_any _ _ _ _).mono ?_; rintro _ w5 ⟨rfl, rfl⟩)
                  clear n0 s0 z0 q0 q1 q2
                  have hws : (wr.setCell ⟨GB + 1, i, none⟩ (.bool true)).heap.size = wr.heap.size := by simp
                  generalize wr.setCell ⟨GB + 1, i, none⟩ (.bool true) = w5 at *
                  have HQ5 : Hid (AQ w ((w5.alloc (.cells #[.slice x.wa m.nw x.wc, .slice x.ra m.nr x.rc] 37)).alloc (.cells #[.int .i64 (i : Int)] 3)) x m t' f' ds' [(wr.heap.size + 1, #[.int .i64 (i : Int)], 3), (wr.heap.size, #[.slice x.wa m.nw x.wc, .slice x.ra m.nr x.rc], 37), (GB + 1, fl8 (upd SS i true), 156), (NB, #[.int .i64 (i : Int)], 3), (GB, #[.int .i64 (g : Int)], 3)]) := by
                    have h := (HQ4.out.new #[.slice x.wa m.nw x.wc, .slice x.ra m.nr x.rc] 37).new #[.int .i64 (i : Int)] 3
                    rw [World.size_alloc, hws] at h
                    exact h
                  clear HQ4
                  generalize ((w5.alloc (.cells #[.slice x.wa m.nw x.wc, .slice x.ra m.nr x.rc] 37)).alloc (.cells #[.int .i64 (i : Int)] 3)) = Wb at *
                  clear hws
                  generalize wr.heap.size = BM at *
                  have hBM4 : w.heap.size + 4 ≤ BM := HQ5.out.lo _ (.tail _ (.head _))
                  have hBMs : BM < Wb.heap.size ∧ BM + 1 < Wb.heap.size := ⟨(HQ5.out.bf.lt (.tail _ (.tail _ (.tail _ (.tail _ (.head _)))))).2, (HQ5.out.bf.lt (.tail _ (.tail _ (.tail _ (.head _))))).2⟩
                  have hWb4 := HQ5.out.size
                  have HTB : Hid (∀ X, Kx Wb.heap.size (fun q => q = w.heap.size + 2) Wb X → MBox X BM x m ∧ X.cell? ⟨BM + 1, 0, none⟩ = some (.int .i64 (i : Int))) := fun X hX => by
                    have b1 := (hX.block BM hBMs.1 (by omega)).trans (HQ5.out.bf.bk _ _ _ (.tail _ (.tail _ (.tail _ (.tail _ (.head _)))))).2
                    have b2 := (hX.block (BM + 1) hBMs.2 (by omega)).trans (HQ5.out.bf.bk _ _ _ (.tail _ (.tail _ (.tail _ (.head _))))).2
                    have hz := hX.size
                    have hz2 := HQ5.out.bf.fr.size
                    exact ⟨⟨b1, HH.out.blocks (by omega) (fun b hb => (hX.block b (by omega) (by omega)).trans (HQ5.out.bf.fr.block b hb))⟩, cell_of_row _ _ 0 _ _ _ b2⟩
                  have HBLK : Hid (Wb.heap[w.heap.size + 2]? = some (.cells (atA x m t' f' (w.heap.size + 1)) 135 (0, 0))) := (HQ5.out.bf.bk _ _ _ (.tail _ (.head _))).2
                  have HCB : Hid (∀ X, Fr (fun q => q = w.heap.size + 2) Wb X → X.cell? ⟨w.heap.size + 3, 0, none⟩ = some (.pointer (some ⟨w.heap.size + 2, 0, none⟩)) ∧ X.cell? ⟨GB, 0, none⟩ = some (.int .i64 (g : Int)) ∧ X.cell? ⟨NB, 0, none⟩ = some (.int .i64 (i : Int))) := fun X hX => by
                    have c1 := HQ5.out.bf.bk _ _ _ (.tail _ (.tail _ (.head _)))
                    have c2 := HQ5.out.bf.bk _ _ _ (.tail _ (.tail _ (.tail _ (.tail _ (.tail _ (.tail _ (.tail _ (.head _))))))))
                    have c3 := HQ5.out.bf.bk _ _ _ (.tail _ (.tail _ (.tail _ (.tail _ (.tail _ (.tail _ (.head _)))))))
                    exact ⟨cell_of_row _ _ 0 _ _ _ ((hX.block _ (Array.getElem?_eq_some_iff.1 c1.2).1 (by omega)).trans c1.2), cell_of_row _ _ 0 _ _ _ ((hX.block _ (Array.getElem?_eq_some_iff.1 c2.2).1 (by omega)).trans c2.2), cell_of_row _ _ 0 _ _ _ ((hX.block _ (Array.getElem?_eq_some_iff.1 c3.2).1 (by omega)).trans c3.2)⟩
                  refine wpIn_wide.1 (listed_range (n := 0) (gf := 113) (lb := #[.pointer (some ⟨BM, 0, none⟩), .pointer (some ⟨BM + 1, 0, none⟩)]) rfl (enters_of Try.func113 (by kernel_rfl) rfl)
                    (next_listed BM (BM + 1) Wb.heap.size (fun q => q = w.heap.size + 2) x m HOK.out (i : Int) Wb (Nat.le_refl _) hBMs HTB.out) (fun _ => rfl) Kx.trans (fun W l o' h => Kx.put W l o' h)
                    (RI Wb (w.heap.size + 2) (w.heap.size + 1) x m g t f i (T, FF)) (RI.own Wb _ _ x m g t f i (T, FF)) ⟨Fr.refl _ _, t', f', HBLK.out, HCM.out⟩
                    (fun k a' W' => RI Wb (w.heap.size + 2) (w.heap.size + 1) x m g t f i (T, FF) k W' ∧ BodyA (.pointer (some ⟨w.heap.size + 3, 0, none⟩)) (.pointer (some ⟨GB, 0, none⟩)) (.pointer (some ⟨NB, 0, none⟩)) (.int .i64 (otherR m ((atL m i).getD k 0) i)) (.int .i64 (m.rt ((atL m i).getD k 0)).2) a')
                    ?hA ?assign ?body ?done)
                  case hA =>
                    rintro k a' s X Y row ⟨hs, hu⟩ hg hr
                    exact ⟨RI.own Wb _ _ x m g t f i (T, FF) k X Y row hs hg hr, hu⟩
                  case assign =>
                    rintro l1 k W1 hy hlen
                    have HY := Lib.hid hy
                    clear hy
                    simp only [encN]
                    generalize (atL m (i : Int)).getD k 0 = q at *
                    gi_wp2
                    exact ⟨Kx.refl _ _ _, KeepsFrom.refl _ _, HY.out, _, _, _, _, _, _, _, _, _, _, _, _, _, _, _, _, _, _, _, _, _, _, _, _, _, _, _, _, _, _, _, _, _, _, _, _, _, _, _, _, _, _, _, _, _, _, _, _, _, _, _, _, _, _, _, _, _, _, _, _, _, _, _, _, _, _, _, _, _, _, _, _, _, _, _, _, _, _, _, _, _, _, _, _, _, _, _, _, _, _, _, _, _, _, _, _, _, _, _, _, _, _, _, _, _, _, _, _, _, _, _, _, _, _, _, _, _, _, _, _, _, _, _, _, _, _, _, _, _, _, _, _, rfl⟩
                  case body =>
                    rintro l1 k a' W1 hl ⟨hri, hinv⟩ hlen
                    unfold BodyA at hinv
                    obtain ⟨u0, hinv⟩ := hinv
                    obtain ⟨u1, hinv⟩ := hinv
                    obtain ⟨u2, hinv⟩ := hinv
                    obtain ⟨u5, hinv⟩ := hinv
                    obtain ⟨u6, hinv⟩ := hinv
                    obtain ⟨u8, hinv⟩ := hinv
                    obtain ⟨u11, hinv⟩ := hinv
                    obtain ⟨u12, hinv⟩ := hinv
                    obtain ⟨u13, hinv⟩ := hinv
                    obtain ⟨u14, hinv⟩ := hinv
                    obtain ⟨u15, hinv⟩ := hinv
                    obtain ⟨u16, hinv⟩ := hinv
                    obtain ⟨u17, hinv⟩ := hinv
                    obtain ⟨u18, hinv⟩ := hinv
                    obtain ⟨u19, hinv⟩ := hinv
                    obtain ⟨u20, hinv⟩ := hinv
                    obtain ⟨u21, hinv⟩ := hinv
                    obtain ⟨u22, hinv⟩ := hinv
                    obtain ⟨u23, hinv⟩ := hinv
                    obtain ⟨u24, hinv⟩ := hinv
                    obtain ⟨u25, hinv⟩ := hinv
                    obtain ⟨u26, hinv⟩ := hinv
                    obtain ⟨u27, hinv⟩ := hinv
                    obtain ⟨u28, hinv⟩ := hinv
                    obtain ⟨u29, hinv⟩ := hinv
                    obtain ⟨u30, hinv⟩ := hinv
                    obtain ⟨u31, hinv⟩ := hinv
                    obtain ⟨u32, hinv⟩ := hinv
                    obtain ⟨u33, hinv⟩ := hinv
                    obtain ⟨u34, hinv⟩ := hinv
                    obtain ⟨u35, hinv⟩ := hinv
                    obtain ⟨u36, hinv⟩ := hinv
                    obtain ⟨u37, hinv⟩ := hinv
                    obtain ⟨u38, hinv⟩ := hinv
                    obtain ⟨u39, hinv⟩ := hinv
                    obtain ⟨u40, hinv⟩ := hinv
                    obtain ⟨u41, hinv⟩ := hinv
                    obtain ⟨u42, hinv⟩ := hinv
                    obtain ⟨u43, hinv⟩ := hinv
                    obtain ⟨u44, hinv⟩ := hinv
                    obtain ⟨u45, hinv⟩ := hinv
                    obtain ⟨u46, hinv⟩ := hinv
                    obtain ⟨u47, hinv⟩ := hinv
                    obtain ⟨u48, hinv⟩ := hinv
                    obtain ⟨u49, hinv⟩ := hinv
                    obtain ⟨u50, hinv⟩ := hinv
                    obtain ⟨u51, hinv⟩ := hinv
                    obtain ⟨u52, hinv⟩ := hinv
                    obtain ⟨u53, hinv⟩ := hinv
                    obtain ⟨u54, hinv⟩ := hinv
                    obtain ⟨u55, hinv⟩ := hinv
                    obtain ⟨u56, hinv⟩ := hinv
                    obtain ⟨u57, hinv⟩ := hinv
                    obtain ⟨u58, hinv⟩ := hinv
                    obtain ⟨u59, hinv⟩ := hinv
                    obtain ⟨u60, hinv⟩ := hinv
                    obtain ⟨u61, hinv⟩ := hinv
                    obtain ⟨u62, hinv⟩ := hinv
                    obtain ⟨u63, hinv⟩ := hinv
                    obtain ⟨u64, hinv⟩ := hinv
                    obtain ⟨u65, hinv⟩ := hinv
                    obtain ⟨u66, hinv⟩ := hinv
                    obtain ⟨u67, hinv⟩ := hinv
                    obtain ⟨u68, hinv⟩ := hinv
                    obtain ⟨u69, hinv⟩ := hinv
                    obtain ⟨u70, hinv⟩ := hinv
                    obtain ⟨u71, hinv⟩ := hinv
                    obtain ⟨u72, hinv⟩ := hinv
                    obtain ⟨u73, hinv⟩ := hinv
                    obtain ⟨u74, hinv⟩ := hinv
                    obtain ⟨u75, hinv⟩ := hinv
                    obtain ⟨u76, hinv⟩ := hinv
                    obtain ⟨u77, hinv⟩ := hinv
                    obtain ⟨u78, hinv⟩ := hinv
                    obtain ⟨u79, hinv⟩ := hinv
                    obtain ⟨u80, hinv⟩ := hinv
                    obtain ⟨u81, hinv⟩ := hinv
                    obtain ⟨u82, hinv⟩ := hinv
                    obtain ⟨u83, hinv⟩ := hinv
                    obtain ⟨u84, hinv⟩ := hinv
                    obtain ⟨u85, hinv⟩ := hinv
                    obtain ⟨u86, hinv⟩ := hinv
                    obtain ⟨u87, hinv⟩ := hinv
                    obtain ⟨u88, hinv⟩ := hinv
                    obtain ⟨u89, hinv⟩ := hinv
                    obtain ⟨u90, hinv⟩ := hinv
                    obtain ⟨u91, hinv⟩ := hinv
                    obtain ⟨u92, hinv⟩ := hinv
                    obtain ⟨u93, hinv⟩ := hinv
                    obtain ⟨u94, hinv⟩ := hinv
                    obtain ⟨u95, hinv⟩ := hinv
                    obtain ⟨u96, hinv⟩ := hinv
                    obtain ⟨u97, hinv⟩ := hinv
                    obtain ⟨u98, hinv⟩ := hinv
                    obtain ⟨u99, hinv⟩ := hinv
                    obtain ⟨u100, hinv⟩ := hinv
                    obtain ⟨u101, hinv⟩ := hinv
                    obtain ⟨u102, hinv⟩ := hinv
                    obtain ⟨u103, hinv⟩ := hinv
                    obtain ⟨u104, hinv⟩ := hinv
                    obtain ⟨u105, hinv⟩ := hinv
                    obtain ⟨u106, hinv⟩ := hinv
                    obtain ⟨u107, hinv⟩ := hinv
                    obtain ⟨u108, hinv⟩ := hinv
                    obtain ⟨u109, hinv⟩ := hinv
                    obtain ⟨u110, hinv⟩ := hinv
                    obtain ⟨u111, hinv⟩ := hinv
                    obtain ⟨u112, hinv⟩ := hinv
                    obtain ⟨u113, hinv⟩ := hinv
                    obtain ⟨u114, hinv⟩ := hinv
                    obtain ⟨u115, hinv⟩ := hinv
                    obtain ⟨u116, hinv⟩ := hinv
                    obtain ⟨u117, hinv⟩ := hinv
                    obtain ⟨u118, hinv⟩ := hinv
                    obtain ⟨u119, hinv⟩ := hinv
                    obtain ⟨u120, hinv⟩ := hinv
                    obtain ⟨u121, hinv⟩ := hinv
                    obtain ⟨u122, hinv⟩ := hinv
                    obtain ⟨u123, hinv⟩ := hinv
                    obtain ⟨u124, hinv⟩ := hinv
                    obtain ⟨u125, hinv⟩ := hinv
                    obtain ⟨u126, hinv⟩ := hinv
                    obtain ⟨u127, hinv⟩ := hinv
                    obtain ⟨u128, hinv⟩ := hinv
                    obtain ⟨u129, hinv⟩ := hinv
                    obtain ⟨u130, hinv⟩ := hinv
                    obtain ⟨u131, hinv⟩ := hinv
                    obtain ⟨u132, hinv⟩ := hinv
                    obtain ⟨u133, hinv⟩ := hinv
                    obtain ⟨u134, hinv⟩ := hinv
                    obtain ⟨u135, hinv⟩ := hinv
                    obtain ⟨u136, hinv⟩ := hinv
                    subst hinv
                    obtain ⟨hf1, t1, f1, hb1, hc1⟩ := hri
                    obtain ⟨q, hq⟩ : ∃ q, (atL m i).getD k 0 = q := ⟨_, rfl⟩
                    have hqm : q < m.nr ∧ isAt m i q = true := by
                      have h1 : q ∈ atL m i := by rw [← hq, List.getD_eq_getElem?_getD, List.getElem?_eq_getElem hlen]; exact List.getElem_mem hlen
                      unfold atL at h1
                      rw [List.mem_filter, List.mem_range] at h1
                      exact h1
                    have HTAK := Lib.hid (relaxL_take m i (atL m i) (T, FF) hlen)
                    rw [hq] at HTAK ⊢
                    clear hq
                    obtain ⟨hq1, hq2⟩ := hqm
                    obtain ⟨o, ho, ho2, hne⟩ : ∃ o : Nat, otherR m q i = o ∧ o < m.nw ∧ o ≠ i := by
                      rcases otherR_iff HOK.out (k := q) (near := i) hq1 with ⟨e, _⟩ | ⟨o, e, h1, h2, _⟩
                      · unfold isAt at hq2; rw [e] at hq2; exact absurd hq2 (by decide)
                      · exact ⟨o, e, h1, h2⟩
                    have hrt := HOK.out.rt q hq1
                    have hkp := rlx_take HOK.out (near := i) T FF k
                    have hTb := HBD.out i hi
                    have htk := HTAK.out
                    unfold relax1 at htk
                    rw [ho, Int.toNat_natCast] at htk
                    rw [ho]
                    generalize relaxL m i ((atL m i).take k) (T, FF) = sk at *
                    obtain ⟨T1, F1⟩ := sk
                    simp only at hkp htk hc1
                    rw [hkp] at htk
                    have HTAK2 := Lib.hid htk
                    clear htk HTAK ho hq2
                    generalize (m.rt q).2 = hh at *
                    generalize T i = ti at *
                    have ho8 : o < 8 := by omega
                    have hoi : (0 : Int) ≤ (o : Int) := by omega
                    have ho9 : (o : Int) < 8 := by omega
                    have hw1 : IntKind.i64.wrap (ti + hh) = ti + hh := IntWalk.i64_in _ (by omega)
                    have HF1 := Lib.hid hf1
                    have HB1 := Lib.hid hb1
                    have HC1 := Lib.hid hc1
                    have HTI : Hid (t1 i g = ti) := (hc1.1 i hi).1.trans hkp
                    have HTO : Hid (t1 o g = T1 o) := (hc1.1 o ho2).1
                    clear hf1 hb1 hc1 hkp
                    have HC25 : Hid (∀ X, Below W1.heap.size W1 X → X.cell? ⟨w.heap.size + 3, 0, none⟩ = some (.pointer (some ⟨w.heap.size + 2, 0, none⟩)) ∧ X.cell? ⟨GB, 0, none⟩ = some (.int .i64 (g : Int)) ∧ X.cell? ⟨NB, 0, none⟩ = some (.int .i64 (i : Int)) ∧ X.cell? ⟨w.heap.size + 2, 2 + i * 8 + g, none⟩ = some (.int .i64 ti) ∧ X.cell? ⟨w.heap.size + 2, 2 + o * 8 + g, none⟩ = some (.int .i64 (T1 o))) := fun X hX => by
                      have hA := (hX.block _ (Array.getElem?_eq_some_iff.1 HB1.out).1).trans HB1.out
                      have hXf : Fr (fun q => q = w.heap.size + 2) Wb X := HF1.out.trans (Fr.below hX _)
                      exact ⟨(HCB.out X hXf).1, (HCB.out X hXf).2.1, (HCB.out X hXf).2.2, ((cell_of_row _ _ _ _ _ _ hA).trans (atA_t x m t1 f1 _ hi8 hg8)).trans (by rw [HTI.out]), ((cell_of_row _ _ _ _ _ _ hA).trans (atA_t x m t1 f1 _ ho8 hg8)).trans (by rw [HTO.out])⟩
                    gi_wp2_with fail
                    have HX0 : Hid (Below W1.heap.size W1 W1.drew) := (Below.refl _ _).drew
                    refine region_wide (fun X => X.cell? ⟨w.heap.size + 3, 0, none⟩ = some (.pointer (some ⟨w.heap.size + 2, 0, none⟩)) ∧ X.cell? ⟨GB, 0, none⟩ = some (.int .i64 (g : Int)) ∧ X.cell? ⟨NB, 0, none⟩ = some (.int .i64 (i : Int)) ∧ X.cell? ⟨w.heap.size + 2, 2 + i * 8 + g, none⟩ = some (.int .i64 ti) ∧ X.cell? ⟨w.heap.size + 2, 2 + o * 8 + g, none⟩ = some (.int .i64 (T1 o))) (by kernel_rfl) (no_defer (by kernel_rfl)) (HC25.out _ HX0.out) (fun hS => ?_)
                    generalize W1.drew = X at *
                    refine tk [0, 1, 2, 3, 4, 5, 6, 7, 8, 9, 10] ?_
                    repeat (refine tkH (oi := ⟨_, _, _, _, _, _⟩) (v := ?_) rfl (by kernel_rfl) (by rfl) (fun _ _ _ h => h) hS ?_ ?_; rotate_left; (· rintro W' ⟨z0, z1, z2, z3, z4⟩; go_simp; try with_reducible rfl); try simp only [Act.put, putA, putZ, putS])
                    refine tk0 ?_
                    refine wpAnyH_done (by kernel_rfl) ?_ _
                    gi_wp2_with fail
                    have HX1 : Hid (Below W1.heap.size W1 X.drew) := HX0.out.drew
                    clear hS
                    refine region_wide (fun X => X.cell? ⟨w.heap.size + 3, 0, none⟩ = some (.pointer (some ⟨w.heap.size + 2, 0, none⟩)) ∧ X.cell? ⟨GB, 0, none⟩ = some (.int .i64 (g : Int)) ∧ X.cell? ⟨NB, 0, none⟩ = some (.int .i64 (i : Int)) ∧ X.cell? ⟨w.heap.size + 2, 2 + i * 8 + g, none⟩ = some (.int .i64 ti) ∧ X.cell? ⟨w.heap.size + 2, 2 + o * 8 + g, none⟩ = some (.int .i64 (T1 o))) (by kernel_rfl) (no_defer (by kernel_rfl)) (HC25.out _ HX1.out) (fun hS => ?_)
                    clear HX0
                    generalize X.drew = Y at *
                    refine tk [0, 1, 2, 3, 4, 5, 6, 7, 8, 9] ?_
                    repeat (refine tkH (oi := ⟨_, _, _, _, _, _⟩) (v := ?_) rfl (by kernel_rfl) (by rfl) (fun _ _ _ h => h) hS ?_ ?_; rotate_left; (· rintro W' ⟨z0, z1, z2, z3, z4⟩; go_simp; try with_reducible rfl); try simp only [Act.put, putA, putZ, putS])
                    refine tk0 ?_
                    refine wpAnyH_done (by kernel_rfl) ?_ _
                    clear hS
                    by_cases hcmp : ti + hh < T1 o
                    · have HST : Hid (relaxL m i ((atL m i).take (k + 1)) (T, FF) = (upd T1 o (ti + hh), upd F1 o (i : Int))) := HTAK2.out.trans (if_pos ⟨hoi, hcmp⟩)
                      gi_wp2_with fail
                      have HX2 : Hid (Below W1.heap.size W1 Y.drew) := HX1.out.drew
                      refine region_wide (fun X => X.cell? ⟨w.heap.size + 3, 0, none⟩ = some (.pointer (some ⟨w.heap.size + 2, 0, none⟩)) ∧ X.cell? ⟨GB, 0, none⟩ = some (.int .i64 (g : Int)) ∧ X.cell? ⟨NB, 0, none⟩ = some (.int .i64 (i : Int))) (by kernel_rfl) (no_defer (by kernel_rfl)) ⟨(HC25.out _ HX2.out).1, (HC25.out _ HX2.out).2.1, (HC25.out _ HX2.out).2.2.1⟩ (fun hS => ?_)
                      clear HX1
                      generalize Y.drew = X at *
                      refine tk [0, 1, 2, 3, 4, 5, 6, 7, 8, 9, 10, 11, 13, 14, 15] ?_
                      repeat (refine tkH (oi := ⟨_, _, _, _, _, _⟩) (v := ?_) rfl (by kernel_rfl) (by rfl) (fun _ _ _ h => h) hS ?_ ?_; rotate_left; (· rintro W' ⟨z0, z1, z2⟩; go_simp; try with_reducible rfl); try simp only [Act.put, putA, putZ, putS])
                      refine tk0 ?_
                      refine wpAnyH_ready (rs := [12]) (by kernel_rfl) (by simp) ?_
                      refine AllReadyH.cons (o := ⟨none, _, _, _, _, _⟩) rfl (fun K hK => ?_) AllReadyH.nil
                      have HFX : Hid (Fr (fun q => q = w.heap.size + 2) W1 X) := Fr.below HX2.out _
                      have HBX : Hid (X.heap[w.heap.size + 2]? = some (.cells (atA x m t1 f1 (w.heap.size + 1)) 135 (0, 0))) := (HX2.out.block _ (Array.getElem?_eq_some_iff.1 HB1.out).1).trans HB1.out
                      have e0 := (cell_of_row _ _ (2 + o * 8 + g) _ _ _ HBX.out).trans (atA_t x m (t1) (f1) _ ho8 hg8)
                      have f0 := frozen_of_row _ _ (2 + o * 8 + g) _ _ HBX.out
                      have HBs0 : Hid ((X.setCell ⟨w.heap.size + 2, 2 + o * 8 + g, none⟩ (.int .i64 (ti + hh))).heap[w.heap.size + 2]? = some (.cells (atA x m (upd2 (t1) o g (ti + hh)) (f1) (w.heap.size + 1)) 135 (0, 0))) := set_block HBX.out (by rw [atA_size]; omega) (atA_setT x m (t1) (f1) _ ho8 hg8 (ti + hh))
                      have HFs0 : Hid (Fr (fun q => q = w.heap.size + 2) W1 (X.setCell ⟨w.heap.size + 2, 2 + o * 8 + g, none⟩ (.int .i64 (ti + hh)))) := HFX.out.trans (Fr.set X (w.heap.size + 2) (2 + o * 8 + g) (.int .i64 (ti + hh)))
                      have hS2 := HCB.out _ (HF1.out.trans HFs0.out)
                      go_simp
                      refine hK.out _ _ hS2 (fun hS => ?_)
                      clear hK K hS2 e0 f0
                      (try simp only [Act.put])
                      refine tH 16 (oi := ⟨_, _, _, _, _, _⟩) (v := ?_) rfl (by kernel_rfl) (by rfl) (fun _ _ _ h => h) hS ?_ ?_
                      rotate_left
                      · rintro W' ⟨z0, z1, z2⟩; go_simp; try with_reducible rfl
                      try simp only [Act.put, putA, putZ, putS]
                      refine wpAnyH_ready (rs := [17]) (by kernel_rfl) (by simp) ?_
                      refine AllReadyH.cons (o := ⟨none, _, _, _, _, _⟩) rfl (fun K hK => ?_) AllReadyH.nil
                      have e0 := (cell_of_row _ _ (66 + o * 8 + g) _ _ _ HBs0.out).trans (atA_f x m (upd2 (t1) o g (ti + hh)) (f1) _ ho8 hg8)
                      have f0 := frozen_of_row _ _ (66 + o * 8 + g) _ _ HBs0.out
                      have HBs1 : Hid (((X.setCell ⟨w.heap.size + 2, 2 + o * 8 + g, none⟩ (.int .i64 (ti + hh))).setCell ⟨w.heap.size + 2, 66 + o * 8 + g, none⟩ (.int .i64 ((i : Int)))).heap[w.heap.size + 2]? = some (.cells (atA x m (upd2 (t1) o g (ti + hh)) (upd2 (f1) o g ((i : Int))) (w.heap.size + 1)) 135 (0, 0))) := set_block HBs0.out (by rw [atA_size]; omega) (atA_setF x m (upd2 (t1) o g (ti + hh)) (f1) _ ho8 hg8 ((i : Int)))
                      have HFs1 : Hid (Fr (fun q => q = w.heap.size + 2) W1 ((X.setCell ⟨w.heap.size + 2, 2 + o * 8 + g, none⟩ (.int .i64 (ti + hh))).setCell ⟨w.heap.size + 2, 66 + o * 8 + g, none⟩ (.int .i64 ((i : Int))))) := HFs0.out.trans (Fr.set (X.setCell ⟨w.heap.size + 2, 2 + o * 8 + g, none⟩ (.int .i64 (ti + hh))) (w.heap.size + 2) (66 + o * 8 + g) (.int .i64 ((i : Int))))
                      have hS2 := HCB.out _ (HF1.out.trans HFs1.out)
                      go_simp
                      refine hK.out _ _ hS2 (fun hS => ?_)
                      clear hK K hS2 e0 f0
                      (try simp only [Act.put])
                      refine wpAnyH_done (by kernel_rfl) ?_ _
                      gi_wp2_with fail
                      have hfin := RI.fin (by omega) HF1.out HFs1.out HBs1.out (by rw [HST.out]; exact HC1.out.step (ti + hh) (i : Int))
                      first | exact ⟨rfl, hfin⟩ | exact hfin
                    · have HST : Hid (relaxL m i ((atL m i).take (k + 1)) (T, FF) = (T1, F1)) := HTAK2.out.trans (if_neg (fun h => hcmp h.2))
                      gi_wp2_with fail
                      have hfin := RI.fin (by omega) HF1.out (Fr.below HX1.out _) ((HX1.out.block _ (Array.getElem?_eq_some_iff.1 HB1.out).1).trans HB1.out) (by rw [HST.out]; exact HC1.out)
                      first | exact ⟨rfl, hfin⟩ | exact hfin
                  case done =>
                    rintro D W5 hD ⟨hf5, t5, f5, hb5, hc5⟩ hdef
                    rw [List.take_length, ← HRN.out.1] at hc5
                    have hmk : Marks W5 (w.heap.size + 4) Wb.heap.size ds' := Marks.mono ds' HQ5.out.mks (Nat.le_refl _) (fun E hE hd => (hf5.block E hE (not_cells HBLK.out hd (fun _ _ _ e => by cases e))).trans hd)
                    have HQ7 : Hid (AQ w W5 x m t5 f5 ({ target := .collected D, args := #[] } :: ds') [(GB + 1, fl8 (rounds m g (r + 1)).S, 156), (GB, #[.int .i64 (g : Int)], 3)]) := by
                      have h := ((HQ5.out.fr hf5 hb5).mark hmk hD hWb4 hdef).sub (L' := [(GB + 1, fl8 (upd SS i true), 156), (GB, #[.int .i64 (g : Int)], 3)]) (List.forall_mem_cons.2 ⟨.tail _ (.tail _ (.head _)), List.forall_mem_cons.2 ⟨.tail _ (.tail _ (.tail _ (.tail _ (.head _)))), List.forall_mem_nil _⟩⟩)
                      rw [← HRN.out.2] at h
                      exact h
                    have HC5 := Lib.hid hc5
                    clear hf5 hb5 hc5 hdef hmk
                    go_wp2_with fail
                    refine ⟨⟨_, _, _, _, _, _, _, _, _, _, _, _, _, _, _, _, _, _, _, _, _, _, _, _, _, _, _, _, _, _, _, _, _, _, _, _, _, _, _, _, _, _, _, _, _, _, _, _, _, _, _, _, _, _, _, _, _, _, _, _, _, _, _, _, _, _, _, _, _, _, _, _, _, _, _, _, _, _, _, _, _, _, _, _, _, _, _, _, _, _, _, _, _, _, _, _, _, _, _, _, _, _, _, _, _, _, _, _, _, _, _, _, _, _, _, _, _, _, _, _, _, _, _, _, _, _, _, _, _, _, _, r + 1, t5, f5, ⟨by go_num, by omega, HQ7.out, HC5.out⟩, rfl⟩, ?_⟩
                    simp [intOf]; omega
            · obtain rfl : r = m.nw := by omega
              have HDN2 := Lib.hid (Colm.done HDN.out HCM.out)
              go_wp2_with fail
              refine ⟨⟨_, _, _, _, _, _, _, _, _, _, _, _, _, _, _, _, _, _, _, _, _, _, _, _, _, _, _, _, _, _, _, _, _, _, _, _, _, _, _, _, _, _, _, _, _, _, _, _, _, _, _, _, _, _, _, _, _, _, _, _, _, _, _, _, _, _, _, _, _, _, _, _, _, _, _, _, _, _, _, _, _, _, _, _, _, _, _, _, _, _, _, _, _, _, _, _, _, _, _, _, _, _, _, _, _, _, _, _, _, _, _, _, _, _, _, _, _, _, _, _, _, _, _, _, _, _, _, _, _, _, _, _, _, _, ds', g + 1, t', f', ⟨by go_num, by omega, HQ.out.sub (fun p hp => by cases hp), HDN2.out⟩, rfl⟩, ?_⟩
              simp [intOf]; omega
    · obtain rfl : g = m.nw := by omega
      have p3 := HQ.out.bf.cell (.tail _ (.tail _ (.head _))) 0
      have HFN : Hid (AtlasAt wr (w.heap.size + 2) (w.heap.size + 1) x m ∧ wr.heap[w.heap.size + 1]? = some (.map #[] 0) ∧ Below w.heap.size w wr) := ⟨⟨t, f, (HQ.out.bf.bk _ _ _ (.tail _ (.head _))).2, fun n q hn hq => HDN.out.1 n q hn hq⟩, HQ.out.mp, HQ.out.bf.fr⟩
      have HMK := Lib.hid HQ.out.mks
      clear HQ HDN m0
      go_wp2_with fail
      refine leaves_marks (B := w.heap.size + 4) (fun W' => AtlasAt W' (w.heap.size + 2) (w.heap.size + 1) x m ∧ W'.heap[w.heap.size + 1]? = some (.map #[] 0) ∧ Below w.heap.size w W') ?_ ?_ ds _ wr HMK.out HFN.out
      · rintro W' l o' ⟨⟨t2, f2, i1, i2⟩, i3, i4⟩ hl hd
        exact ⟨⟨t2, f2, (World.putObj_heap_other (by omega)).trans i1, i2⟩, (World.putObj_heap_other (by omega)).trans i3, i4.trans ((Fr.put W' l o').low i4.size (fun q hq e => by omega))⟩
      · rintro W' ⟨i1, i2, i3⟩
        exact ⟨.pointer (some ⟨w.heap.size + 2, 0, none⟩), by simp [results, Try.results69, go_sem], rfl, i1, i2, i3⟩
end Go.Proofs.Ytpnkgjkoophckaa
