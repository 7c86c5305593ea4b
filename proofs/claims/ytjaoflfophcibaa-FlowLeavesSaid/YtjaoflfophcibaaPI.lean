/- to, ranges (of the law's package). | Table (of the law's package). | In, Span, Groups (of the reference). -/
import Derived.Test.YtjaoflfophcibaaPE
import Derived.Test.YtjaoflfophcibaaPG
import Derived.Test.YtjaoflfophcibaaPH
namespace Go.Proofs.Ytjaoflfophcibaa
open Go.RowKit Go.Shelf

/-- What a law is handed: a slice of no elements may be any. -/
def RsIn (w : World) (sv : Value) (n : Nat) (R : Nat → R2) : Prop :=
  (∃ a cap, sv = .slice a 0 cap ∧ n = 0) ∨ ∃ b off cap, sv = .slice (some ⟨b, off, none⟩) n cap ∧ b < w.heap.size ∧ ∀ j, j < n →
    w.cell? ⟨b, off + j * 2, none⟩ = some (.int .i64 (R j).1) ∧ w.cell? ⟨b, off + j * 2 + 1, none⟩ = some (.int .i64 (R j).2)
theorem RsAt.toIn {w : World} {sv : Value} {n : Nat} {R : Nat → R2} (h : RsAt w sv n R) : RsIn w sv n R := by
  rcases h with ⟨h, h2⟩ | h
  · exact .inl ⟨_, _, h, h2⟩
  · exact .inr h
theorem RsIn.below {w w' : World} {sv : Value} {n : Nat} {R : Nat → R2} (h : RsIn w sv n R) (hB : Below w.heap.size w w') : RsIn w' sv n R := by
  rcases h with h | ⟨b, off, cap, rfl, hb, hz⟩
  · exact .inl h
  · exact .inr ⟨b, off, cap, rfl, Nat.lt_of_lt_of_le hb hB.size, fun j hj => ⟨kept hB hb (hz j hj).1, kept hB hb (hz j hj).2⟩⟩
theorem RsIn.slice {w : World} {sv : Value} {n : Nat} {R : Nat → R2} (h : RsIn w sv n R) : ∃ a cap, sv = .slice a n cap := by
  rcases h with ⟨a, cap, rfl, rfl⟩ | ⟨b, off, cap, rfl, _⟩
  · exact ⟨_, _, rfl⟩
  · exact ⟨_, _, rfl⟩
theorem RsIn.at {w : World} {a : Option Addr} {n cap : Nat} {R : Nat → R2} (h : RsIn w (.slice a n cap) n R) {k : Nat} (hk : k < n) : ∃ b off, a = some ⟨b, off, none⟩ ∧ b < w.heap.size ∧ w.cell? ⟨b, off + k * 2, none⟩ = some (.int .i64 (R k).1) ∧ w.cell? ⟨b, off + k * 2 + 1, none⟩ = some (.int .i64 (R k).2) := by
  rcases h with ⟨_, _, _, h⟩ | ⟨b', o', c', e, hb, hz⟩
  · omega
  · cases e; exact ⟨_, _, rfl, hb, hz k hk⟩
def RowsIn (w : World) (sv : Value) (n : Nat) (rl : Nat → Nat) (ct : Nat → Nat → R2) : Prop :=
  (∃ a cap, sv = .slice a 0 cap ∧ n = 0) ∨ ∃ b off cap, sv = .slice (some ⟨b, off, none⟩) n cap ∧ b < w.heap.size ∧ ∀ j, j < n → ∃ rv, w.cell? ⟨b, off + j, none⟩ = some rv ∧ RsIn w rv (rl j) (ct j)
theorem RowsAt.toIn {w : World} {sv : Value} {n : Nat} {rl : Nat → Nat} {ct : Nat → Nat → R2} (h : RowsAt w sv n rl ct) : RowsIn w sv n rl ct := by
  rcases h with ⟨h, h2⟩ | ⟨b, off, cap, h, hb, hz⟩
  · exact .inl ⟨_, _, h, h2⟩
  · exact .inr ⟨b, off, cap, h, hb, fun j hj => by obtain ⟨rv, h0, h1⟩ := hz j hj; exact ⟨rv, h0, h1.toIn⟩⟩
theorem RowsIn.below {w w' : World} {sv : Value} {n : Nat} {rl : Nat → Nat} {ct : Nat → Nat → R2} (h : RowsIn w sv n rl ct) (hB : Below w.heap.size w w') : RowsIn w' sv n rl ct := by
  rcases h with h | ⟨b, off, cap, rfl, hb, hz⟩
  · exact .inl h
  · refine .inr ⟨b, off, cap, rfl, Nat.lt_of_lt_of_le hb hB.size, fun j hj => ?_⟩
    obtain ⟨rv, h0, h1⟩ := hz j hj
    exact ⟨rv, kept hB hb h0, h1.below hB⟩
theorem RowsIn.slice {w : World} {sv : Value} {n : Nat} {rl : Nat → Nat} {ct : Nat → Nat → R2} (h : RowsIn w sv n rl ct) : ∃ a cap, sv = .slice a n cap := by
  rcases h with ⟨a, cap, rfl, rfl⟩ | ⟨b, off, cap, rfl, _⟩
  · exact ⟨_, _, rfl⟩
  · exact ⟨_, _, rfl⟩
theorem RowsIn.at {w : World} {a : Option Addr} {n cap : Nat} {rl : Nat → Nat} {ct : Nat → Nat → R2} (h : RowsIn w (.slice a n cap) n rl ct) {k : Nat} (hk : k < n) : ∃ b off ra rc, a = some ⟨b, off, none⟩ ∧ b < w.heap.size ∧ w.cell? ⟨b, off + k, none⟩ = some (.slice ra (rl k) rc) ∧ RsIn w (.slice ra (rl k) rc) (rl k) (ct k) := by
  rcases h with ⟨_, _, _, h⟩ | ⟨b', o', c', e, hb, hz⟩
  · omega
  · cases e
    obtain ⟨rv, h0, h1⟩ := hz k hk
    obtain ⟨ra, rc, rfl⟩ := h1.slice
    exact ⟨_, _, _, _, rfl, hb, h0, h1⟩
def WLi (W : World) (x : WV) (t : Tb) : Prop := RowsIn W (x.cv t) t.nc t.rl t.ct ∧ RsIn W (x.bv t) t.nb t.b ∧ RsIn W (x.rv t) t.nr t.r ∧ RsIn W (x.nv t) t.nn t.n
theorem WL.toIn {W : World} {x : WV} {t : Tb} (h : WL W x t) : WLi W x t := ⟨h.1.toIn, h.2.1.toIn, h.2.2.1.toIn, h.2.2.2.toIn⟩
theorem WLi.below {W W' : World} {x : WV} {t : Tb} (h : WLi W x t) (hB : Below W.heap.size W W') : WLi W' x t := ⟨h.1.below hB, h.2.1.below hB, h.2.2.1.below hB, h.2.2.2.below hB⟩
def TbIn (w : World) (v : Value) (t : Tb) : Prop :=
  ∃ ca cc ba bc ra rc na nc, v = .agg #[.slice ca t.nc cc, .slice ba t.nb bc, .slice ra t.nr rc, .slice na t.nn nc] ∧ RowsIn w (.slice ca t.nc cc) t.nc t.rl t.ct ∧ RsIn w (.slice ba t.nb bc) t.nb t.b ∧ RsIn w (.slice ra t.nr rc) t.nr t.r ∧ RsIn w (.slice na t.nn nc) t.nn t.n
theorem WLi.tb {W : World} {x : WV} {t : Tb} (h : WLi W x t) : TbIn W (.agg #[x.cv t, x.bv t, x.rv t, x.nv t]) t := ⟨_, _, _, _, _, _, _, _, rfl, h.1, h.2.1, h.2.2.1, h.2.2.2⟩
theorem own_below {w X : World} {base n size : Nat} {T : TypeId} {v : Value} {xs : List Value} (h : w.ownsRow base T size v n xs) (hb : Below w.heap.size w X) : X.ownsRow base T size v n xs := own_fr h (Fr.below hb (fun _ => False)) (fun _ _ _ _ _ h => h)
theorem grown_below {w X Y : World} {v : Value} {xs : List Value} {T : TypeId} {n size : Nat} (hb : Below w.heap.size w X) (ho : X.ownsRow w.heap.size T size v n xs) (hg : X.grownBy Y v.ownBlock) : Below w.heap.size w Y :=
  hb.trans ((Fr.grown hg).low hb.size (fun k hk e => by have := (ho.lt k e).1; omega))
theorem Try.infoRangeR : (Try.prog.info? 43).map (fun i => (i.zero, i.size, i.bytes)) = some (some (.agg #[.int .i64 0, .int .i64 0]), 2, 16) := by kernel_rfl
set_option maxHeartbeats 1000000 in
theorem to_any (a b : Int) (w : World) : Calls Try.prog 30 #[.agg #[.int .i64 a, .int .i64 b]] w fun e w' => e = .returned (.agg #[.int .i64 a, .int .i64 b]) ∧ Below w.heap.size w w' := by
  obtain ⟨i0, hi0, hz0, hz1, hz2⟩ := info_parts Try.infoRangeR
  obtain ⟨i1, hi1, hy0, hy1, hy2⟩ := info_parts Try.infoRangeF
  go_enter Try.func30, Try.ntmps30
  go_wp2
  exact bodyPost_ret (v := .agg #[.int .i64 a, .int .i64 b]) (by simp [results, Try.results30, go_sem]) rfl ⟨rfl, (below_alloc _ _).alloc (by simp) _⟩
set_option maxRecDepth 100000 in
set_option maxHeartbeats 2000000 in
theorem ranges_own (v : Value) (n : Nat) (R : Nat → R2) (w : World) (h : RsIn w v n R) (hn : n ≤ 100000) :
    Calls Try.prog 62 #[v] w fun e w' => ∃ v', e = .returned v' ∧ w'.ownsRow w.heap.size 29 2 v' n (flatR R n) ∧ Below w.heap.size w w' := by
  obtain ⟨i0, hi0, hz0, hz1, hz2⟩ := info_parts Try.infoRangeF
  obtain ⟨i1, hi1, hy0, hy1, hy2⟩ := info_parts Try.infoRangeR
  obtain ⟨a, ca, rfl⟩ := h.slice
  have HA := Lib.hid h; clear h
  go_enter Try.func62, Try.ntmps62
  go_wp2
  go_loopw [3, 4] (fun v i wr => ∃ k : Nat, k ≤ n ∧ i = .int .i64 k ∧ wr.ownsRow w.heap.size 29 2 v k (flatR R k) ∧ Below w.heap.size w wr) (fun _ i _ => n - (intOf i).toNat)
  case atStart => exact ⟨0, Nat.zero_le _, rfl, World.ownsRow_nil _ _ _ _, Below.refl _ _⟩
  case round =>
    obtain ⟨k, hk, rfl, how, hbl⟩ := hrel
    have HOW := Lib.hid how; have HBL := Lib.hid hbl
    obtain ⟨va, vc, rfl⟩ := own_slice' how
    clear how hbl
    by_cases hlt : k < n
    · obtain ⟨ba, oa, rfl, hba, xa, xa'⟩ := HA.out.at hlt
      have ya := kept HBL.out hba xa
      have ya' := kept HBL.out hba xa'
      clear xa xa'
      obtain ⟨p, HP⟩ : ∃ p, Hid ((R k).1 = p) := ⟨_, rfl⟩
      obtain ⟨q, HQ⟩ : ∃ q, Hid ((R k).2 = q) := ⟨_, rfl⟩
      rw [HP.out] at ya; rw [HQ.out] at ya'
      have ki : (0 : Int) ≤ (k : Int) := by omega
      have kj : (k : Int) < (n : Int) := by omega
      go_wp2_with (first | (go_at_call 30; refine (to_any _ _ _).mono ?_; rintro _ w1 ⟨rfl, hb1⟩; have HB1 := Lib.hid hb1; clear hb1) | (at_builtin; refine wpList_append_src _ rfl (.tmp 11) (.tmp 17) 34 rfl w.heap.size 29 i0 (.agg #[.int .i64 0, .int .i64 0]) 2 16 Try.underlying34 hi0 hz0 hz1 hz2 rfl (by decide) (.slice va k vc) k (flatR R k) rfl ((own_below HOW.out HB1.out).alloc (.cells #[.int .i64 p, .int .i64 q] 29)) (some ⟨w1.heap.size, 0, none⟩) 1 1 [.int .i64 p, .int .i64 q] rfl ⟨rfl, fun j u hu => ⟨_, rfl, World.news_of_block (heap_alloc_new w1 (.cells #[.int .i64 p, .int .i64 q] 29)) j u hu⟩⟩ (by simp [Value.oneCell']) ?a1 ?a2 ?a3 ?_))
      case a1 => unfold maxLen; omega
      case a2 => omega
      case a3 => have := HBL.out.size; have := HB1.out.size; simp; omega
      intro v1 w9 hown hgr hlt2
      obtain ⟨va1, vc1, rfl⟩ := own_slice' hown
      have hb9 : Below w.heap.size w w9 := grown_below ((below_step HBL.out HB1.out).alloc (by have := HBL.out.size; have := HB1.out.size; omega) (.cells #[.int .i64 p, .int .i64 q] 29)) ((own_below HOW.out HB1.out).alloc (.cells #[.int .i64 p, .int .i64 q] 29)) hgr
      have HB9 := Lib.hid hb9
      have HO9 := Lib.hid hown
      clear hown hgr hlt2 hb9
      go_wp2_with fail
      go_roundw
      case rel => exact ⟨k + 1, by omega, by go_num, by rw [flatR_succ, HP.out, HQ.out]; exact HO9.out, HB9.out⟩
      case measure => simp [intOf]; omega
    · obtain rfl : k = n := by omega
      go_wp2_with fail
      go_ret
      exact ⟨_, rfl, HOW.out, HBL.out⟩
end Go.Proofs.Ytjaoflfophcibaa

namespace Go.Proofs.Ytjaoflfophcibaa
open Go.RowKit Go.Shelf

/-- Own rows in an own row. -/
def RowsO (base : Nat) (W : World) (v : Value) (k : Nat) (rl : Nat → Nat) (ct : Nat → Nat → R2) (vs : Nat → Value) : Prop :=
  W.ownsRow base 34 1 v k ((List.range k).map vs) ∧ ∀ j, j < k → W.ownsRow base 29 2 (vs j) (rl j) (flatR (ct j) (rl j))
section
variable {base k : Nat} {W X Y : World} {v : Value} {rl : Nat → Nat} {ct : Nat → Nat → R2} {vs : Nat → Value}
theorem RowsO.nil (base : Nat) (W : World) (rl : Nat → Nat) (ct : Nat → Nat → R2) : RowsO base W (.slice none 0 0) 0 rl ct (fun _ => .slice none 0 0) := ⟨World.ownsRow_nil _ _ _ _, fun _ hj => absurd hj (Nat.not_lt_zero _)⟩
theorem RowsO.fr {ex : Nat → Prop} (h : RowsO base W v k rl ct vs) (hf : Fr ex W X) (hx : ∀ b cs T, T ≠ 36 → W.heap[b]? = some (.cells cs T (0, 0)) → ¬ ex b) : RowsO base X v k rl ct vs :=
  ⟨own_fr h.1 hf (fun g _ _ _ hc => hx g _ _ (by decide) hc), fun j hj => own_fr (h.2 j hj) hf (fun g _ _ _ hc => hx g _ _ (by decide) hc)⟩
theorem RowsO.below (h : RowsO base W v k rl ct vs) (hb : Below W.heap.size W X) : RowsO base X v k rl ct vs := h.fr (Fr.below hb (fun _ => False)) (fun _ _ _ _ _ h => h)
theorem RowsO.step {u v1 : Value} (h : RowsO base X v k rl ct vs) (hu : X.ownsRow base 29 2 u (rl k) (flatR (ct k) (rl k)))
    (hown : Y.ownsRow base 34 1 v1 (k + 1) ((List.range k).map vs ++ [u])) (hgr : X.grownBy Y v.ownBlock) :
    RowsO base Y v1 (k + 1) rl ct (fun j => if j = k then u else vs j) := by
  have hne : ∀ g cur, X.heap[g]? = some (.cells cur 29 (0, 0)) → ¬ v.ownBlock = some g := fun g cur hc e => by
    rcases h.1.2 with ⟨rfl, _⟩ | ⟨g', cap, cur', rfl, _, hg, _⟩
    · cases e
    · cases e; rw [hc] at hg; cases hg
  refine ⟨?_, fun j hj => ?_⟩
  · have e : (List.range (k + 1)).map (fun j => if j = k then u else vs j) = (List.range k).map vs ++ [u] := by
      rw [List.range_succ, List.map_append]
      congr 1
      · exact List.map_congr_left (fun j hj => if_neg (by have := List.mem_range.1 hj; omega))
      · simp
    rw [e]; exact hown
  · show Y.ownsRow base 29 2 (if j = k then u else vs j) (rl j) (flatR (ct j) (rl j))
    by_cases e : j = k
    · subst e; rw [if_pos rfl]; exact own_fr hu (Fr.grown hgr) (fun g cur _ _ hc => hne g cur hc)
    · rw [if_neg e]; exact own_fr (h.2 j (by omega)) (Fr.grown hgr) (fun g cur _ _ hc => hne g cur hc)
theorem RowsO.rows (h : RowsO base W v k rl ct vs) : RowsAt W v k rl ct := by
  rcases h.1.2 with ⟨rfl, rfl⟩ | ⟨g, cap, cur, rfl, _, hg, _⟩
  · exact .inl ⟨rfl, rfl⟩
  · refine .inr ⟨g, 0, cap, rfl, (Array.getElem?_eq_some_iff.1 hg).1, fun j hj => ⟨vs j, ?_, RsAt.own (h.2 j hj)⟩⟩
    rw [Nat.zero_add]
    refine (h.1.cellAt j (by omega)).trans ?_
    rw [List.getElem?_map, List.getElem?_range hj]; rfl
end
theorem BF.fro {w X Y : World} {L : List (Nat × Array Value × TypeId)} {ex : Nat → Prop} (h : BF w X L) (hf : Fr ex X Y) (hlow : ∀ q, q < w.heap.size → ¬ ex q) (hx : ∀ p, p ∈ L → ¬ ex p.1) : BF w Y L :=
  ⟨h.fr.trans (hf.low h.fr.size hlow), fun b cs T hm => ⟨(h.bk b cs T hm).1, (hf.block b (h.lt hm).2 (hx _ hm)).trans (h.bk b cs T hm).2⟩⟩
theorem Try.infoTableR : (Try.prog.info? 25).map (fun i => (i.zero, i.size, i.bytes)) = some (some (.agg #[.slice none 0 0, .slice none 0 0, .slice none 0 0, .slice none 0 0]), 4, 96) := by kernel_rfl
theorem Try.infoTableF : (Try.prog.info? 36).map (fun i => (i.zero, i.size, i.bytes)) = some (some (.agg #[.slice none 0 0, .slice none 0 0, .slice none 0 0, .slice none 0 0]), 4, 96) := by kernel_rfl
set_option maxRecDepth 100000 in
set_option maxHeartbeats 4000000 in
theorem table_any (x : WV) (t : Tb) (hs : t.small) (w : World) (hl : WLi w x t) :
    Calls Try.prog 20 #[.agg #[x.cv t, x.bv t, x.rv t, x.nv t]] w fun e w' => ∃ y, e = .returned (.agg #[y.cv t, y.bv t, y.rv t, y.nv t]) ∧ WL w' y t ∧ Below w.heap.size w w' := by
  obtain ⟨i0, hi0, hz0, hz1, hz2⟩ := info_parts Try.infoRangeF
  obtain ⟨i1, hi1, hy0, hy1, hy2⟩ := info_parts Try.infoRangeR
  obtain ⟨i2, hi2, hx0, hx1, hx2⟩ := info_parts Try.infoTableR
  obtain ⟨i3, hi3, hw0, hw1, hw2⟩ := info_parts Try.infoTableF
  obtain ⟨i4, hi4, hv0, hv1, hv2⟩ := info_parts Try.infoRangesF
  have HB : Hid (∀ X, Below w.heap.size w X → Calls Try.prog 62 #[x.bv t] X fun e w' => ∃ v', e = .returned v' ∧ w'.ownsRow X.heap.size 29 2 v' t.nb (flatR t.b t.nb) ∧ Below X.heap.size X w') := fun X hX => ranges_own _ _ _ _ (hl.below hX).2.1 hs.2.2.1
  have HR : Hid (∀ X, Below w.heap.size w X → Calls Try.prog 62 #[x.rv t] X fun e w' => ∃ v', e = .returned v' ∧ w'.ownsRow X.heap.size 29 2 v' t.nr (flatR t.r t.nr) ∧ Below X.heap.size X w') := fun X hX => ranges_own _ _ _ _ (hl.below hX).2.2.1 hs.2.2.2.1
  have HN : Hid (∀ X, Below w.heap.size w X → Calls Try.prog 62 #[x.nv t] X fun e w' => ∃ v', e = .returned v' ∧ w'.ownsRow X.heap.size 29 2 v' t.nn (flatR t.n t.nn) ∧ Below X.heap.size X w') := fun X hX => ranges_own _ _ _ _ (hl.below hX).2.2.2 hs.2.2.2.2
  have hcs := hs.1; have hrs := Lib.hid hs.2.1
  have HC := Lib.hid hl.1
  clear hl hs
  simp only [WV.cv, WV.bv, WV.rv, WV.nv] at HB HR HN HC ⊢
  have HA0 := Lib.hid (BF.made2 w #[.slice x.ca t.nc x.cc, .slice x.ba t.nb x.bc, .slice x.ra t.nr x.rc, .slice x.na t.nn x.nc] #[.slice none 0 0, .slice none 0 0, .slice none 0 0, .slice none 0 0] 25 36)
  go_enter Try.func20, Try.ntmps20
  go_wp2_with fail
  have HAX : Hid (BF w ((w.alloc (.cells #[.slice x.ca t.nc x.cc, .slice x.ba t.nb x.bc, .slice x.ra t.nr x.rc, .slice x.na t.nn x.nc] 25)).alloc (.cells #[.slice none 0 0, .slice none 0 0, .slice none 0 0, .slice none 0 0] 36)).drew [(w.heap.size, #[.slice x.ca t.nc x.cc, .slice x.ba t.nb x.bc, .slice x.ra t.nr x.rc, .slice x.na t.nn x.nc], 25), (w.heap.size + 1, #[.slice none 0 0, .slice none 0 0, .slice none 0 0, .slice none 0 0], 36)]) := HA0.out.below ((Below.refl _ _).drew)
  go_cut [3] (fun s3 wx => ∃ O ba bc' ra rc na nc', s3 = .pointer (some ⟨O, 0, none⟩) ∧ w.heap.size + 1 < O ∧ BF w wx [(O, #[.slice none 0 0, .slice ba t.nb bc', .slice ra t.nr rc, .slice na t.nn nc'], 36), (w.heap.size, #[.slice x.ca t.nc x.cc, .slice x.ba t.nb x.bc, .slice x.ra t.nr x.rc, .slice x.na t.nn x.nc], 25), (w.heap.size + 1, #[.slice none 0 0, .slice none 0 0, .slice none 0 0, .slice none 0 0], 36)] ∧ wx.ownsRow w.heap.size 29 2 (.slice ba t.nb bc') t.nb (flatR t.b t.nb) ∧ wx.ownsRow w.heap.size 29 2 (.slice ra t.nr rc) t.nr (flatR t.r t.nr) ∧ wx.ownsRow w.heap.size 29 2 (.slice na t.nn nc') t.nn (flatR t.n t.nn))
  case first =>
    refine wp_region_Z (S := fun X => X.cell? ⟨w.heap.size, 0, none⟩ = some (.slice x.ca t.nc x.cc) ∧ X.cell? ⟨w.heap.size, 1, none⟩ = some (.slice x.ba t.nb x.bc) ∧ X.cell? ⟨w.heap.size, 2, none⟩ = some (.slice x.ra t.nr x.rc) ∧ X.cell? ⟨w.heap.size, 3, none⟩ = some (.slice x.na t.nn x.nc)) (by kernel_rfl) (⟨HAX.out.cell (.head _) 0, HAX.out.cell (.head _) 1, HAX.out.cell (.head _) 2, HAX.out.cell (.head _) 3⟩) (fun hS => ?_)
    clear HA0
    generalize ((w.alloc (.cells #[.slice x.ca t.nc x.cc, .slice x.ba t.nb x.bc, .slice x.ra t.nr x.rc, .slice x.na t.nn x.nc] 25)).alloc (.cells #[.slice none 0 0, .slice none 0 0, .slice none 0 0, .slice none 0 0] 36)).drew = X at *
    refine tk [0, 1, 3, 4, 6, 7] ?_
    repeat (refine tkZ (oi := ⟨_, _, _, _, _, _⟩) (v := ?_) rfl (by kernel_rfl) (by rfl) (fun _ _ _ h => h) hS ?_ ?_; rotate_left; (· rintro W' ⟨z0, z1, z2, z3⟩; go_simp; try with_reducible rfl); try simp only [Act.put, putA, putZ, putS])
    refine tk0 ?_
    refine wpAnyZ_next (rs := [2, 10]) (by kernel_rfl) (by simp) ?_
    refine NextZ.cons (o := ⟨some 7, _, _, _, _, _⟩) rfl (fun K hK => ?_) ?_
    ·
      go_simp
      refine (HB.out X HAX.out.fr).mono ?_
      rintro _ X0 ⟨v0, rfl, ho0, hb0⟩
      obtain ⟨a0, c0, rfl⟩ := own_slice' ho0
      (try go_wp2_with fail)
      have HV0B : Hid (X0.ownsRow w.heap.size 29 2 (.slice a0 t.nb c0) t.nb (flatR t.b t.nb)) := own_mono ho0 HAX.out.fr.size
      have HA0 := Lib.hid (HAX.out.below hb0)
      refine hK.out _ _ (⟨HA0.out.cell (.head _) 0, HA0.out.cell (.head _) 1, HA0.out.cell (.head _) 2, HA0.out.cell (.head _) 3⟩) (fun hS => ?_)
      clear hK K
      try simp only [Act.put, putA, putZ, putS]
      clear hb0 ho0
      refine wpAnyZ_next (rs := [5, 10]) (by kernel_rfl) (by simp) ?_
      refine NextZ.cons (o := ⟨some 10, _, _, _, _, _⟩) rfl (fun K hK => ?_) ?_
      ·
        go_simp
        refine (HR.out X0 HA0.out.fr).mono ?_
        rintro _ X1 ⟨v1, rfl, ho1, hb1⟩
        obtain ⟨a1, c1, rfl⟩ := own_slice' ho1
        (try go_wp2_with fail)
        have HV1B : Hid (X1.ownsRow w.heap.size 29 2 (.slice a0 t.nb c0) t.nb (flatR t.b t.nb)) := own_below HV0B.out hb1
        have HV1R : Hid (X1.ownsRow w.heap.size 29 2 (.slice a1 t.nr c1) t.nr (flatR t.r t.nr)) := own_mono ho1 HA0.out.fr.size
        have HA1 := Lib.hid (HA0.out.below hb1)
        refine hK.out _ _ (⟨HA1.out.cell (.head _) 0, HA1.out.cell (.head _) 1, HA1.out.cell (.head _) 2, HA1.out.cell (.head _) 3⟩) (fun hS => ?_)
        clear hK K
        try simp only [Act.put, putA, putZ, putS]
        clear hb1 ho1
        refine wpAnyZ_next (rs := [8, 10]) (by kernel_rfl) (by simp) ?_
        refine NextZ.cons (o := ⟨some 13, _, _, _, _, _⟩) rfl (fun K hK => ?_) ?_
        ·
          go_simp
          refine (HN.out X1 HA1.out.fr).mono ?_
          rintro _ X2 ⟨v2, rfl, ho2, hb2⟩
          obtain ⟨a2, c2, rfl⟩ := own_slice' ho2
          (try go_wp2_with fail)
          have HV2B : Hid (X2.ownsRow w.heap.size 29 2 (.slice a0 t.nb c0) t.nb (flatR t.b t.nb)) := own_below HV1B.out hb2
          have HV2R : Hid (X2.ownsRow w.heap.size 29 2 (.slice a1 t.nr c1) t.nr (flatR t.r t.nr)) := own_below HV1R.out hb2
          have HV2N : Hid (X2.ownsRow w.heap.size 29 2 (.slice a2 t.nn c2) t.nn (flatR t.n t.nn)) := own_mono ho2 HA1.out.fr.size
          have HA2 := Lib.hid (HA1.out.below hb2)
          refine hK.out _ _ (⟨HA2.out.cell (.head _) 0, HA2.out.cell (.head _) 1, HA2.out.cell (.head _) 2, HA2.out.cell (.head _) 3⟩) (fun hS => ?_)
          clear hK K
          try simp only [Act.put, putA, putZ, putS]
          clear hb2 ho2
          refine tZ 9 (oi := ⟨_, _, _, _, _, _⟩) (v := ?_) rfl (by kernel_rfl) (by rfl) (fun _ _ _ h => h) hS ?_ ?_
          rotate_left
          · rintro W' ⟨z0, z1, z2, z3⟩; go_simp; try with_reducible rfl
          try simp only [Act.put, putA, putZ, putS]
          refine wpAnyZ_next (rs := [10]) (by kernel_rfl) (by simp) ?_
          refine NextZ.cons (o := ⟨some 3, _, _, _, _, _⟩) rfl (fun K hK => ?_) NextZ.nil
          have HV3B : Hid ((X2.alloc (.cells #[.slice none 0 0, .slice none 0 0, .slice none 0 0, .slice none 0 0] 36)).ownsRow w.heap.size 29 2 (.slice a0 t.nb c0) t.nb (flatR t.b t.nb)) := HV2B.out.alloc _
          have HV3R : Hid ((X2.alloc (.cells #[.slice none 0 0, .slice none 0 0, .slice none 0 0, .slice none 0 0] 36)).ownsRow w.heap.size 29 2 (.slice a1 t.nr c1) t.nr (flatR t.r t.nr)) := HV2R.out.alloc _
          have HV3N : Hid ((X2.alloc (.cells #[.slice none 0 0, .slice none 0 0, .slice none 0 0, .slice none 0 0] 36)).ownsRow w.heap.size 29 2 (.slice a2 t.nn c2) t.nn (flatR t.n t.nn)) := HV2N.out.alloc _
          go_simp
          have HA3 := Lib.hid (HA2.out.alloc #[.slice none 0 0, .slice none 0 0, .slice none 0 0, .slice none 0 0] 36)
          have hn3T := (HA2.out.lt (.head _)).2
          have hn3R := (HA2.out.lt (.tail _ (.head _))).2
          have hn3_ := HA2.out.fr.size
          refine hK.out _ _ (⟨HA3.out.cell (.tail _ (.head _)) 0, HA3.out.cell (.tail _ (.head _)) 1, HA3.out.cell (.tail _ (.head _)) 2, HA3.out.cell (.tail _ (.head _)) 3⟩) (fun hS => ?_)
          clear hK K
          try simp only [Act.put, putA, putZ, putS]
          generalize X2.heap.size = O3 at *
          generalize (X2.alloc (.cells #[.slice none 0 0, .slice none 0 0, .slice none 0 0, .slice none 0 0] 36)) = X3 at *
          refine wpAnyZ_next (rs := [11]) (by kernel_rfl) (by simp) ?_
          refine NextZ.last (o := ⟨none, _, _, _, _, _⟩) rfl (by kernel_rfl) (fun K hK => ?_)
          have e0 := HA3.out.cell (.head _) 0
          have f0 := HA3.out.thaw (.head _) 0
          have e1 := HA3.out.cell (.head _) 1
          have f1 := HA3.out.thaw (.head _) 1
          have e2 := HA3.out.cell (.head _) 2
          have f2 := HA3.out.thaw (.head _) 2
          have e3 := HA3.out.cell (.head _) 3
          have f3 := HA3.out.thaw (.head _) 3
          obtain ⟨-, hF⟩ := set4' (HA3.out.bk _ _ _ (.head _)).2 (.slice none 0 0) (.slice a0 t.nb c0) (.slice a1 t.nr c1) (.slice a2 t.nn c2)
          have hq0 := BF.set1 (i := 0) (cs' := #[.slice none 0 0, .slice none 0 0, .slice none 0 0, .slice none 0 0]) HA3.out (.head _) (.slice none 0 0) (by simp) rfl (L' := [(w.heap.size, #[.slice x.ca t.nc x.cc, .slice x.ba t.nb x.bc, .slice x.ra t.nr x.rc, .slice x.na t.nn x.nc], 25), (w.heap.size + 1, #[.slice none 0 0, .slice none 0 0, .slice none 0 0, .slice none 0 0], 36)]) (List.forall_mem_cons.2 ⟨⟨show w.heap.size ≠ O3 by omega, (.tail _ (.head _))⟩, List.forall_mem_cons.2 ⟨⟨show w.heap.size + 1 ≠ O3 by omega, (.tail _ (.tail _ (.head _)))⟩, List.forall_mem_nil _⟩⟩)
          have hq1 := BF.set1 (i := 1) (cs' := #[.slice none 0 0, .slice a0 t.nb c0, .slice none 0 0, .slice none 0 0]) hq0 (.head _) (.slice a0 t.nb c0) (by simp) rfl (L' := [(w.heap.size, #[.slice x.ca t.nc x.cc, .slice x.ba t.nb x.bc, .slice x.ra t.nr x.rc, .slice x.na t.nn x.nc], 25), (w.heap.size + 1, #[.slice none 0 0, .slice none 0 0, .slice none 0 0, .slice none 0 0], 36)]) (List.forall_mem_cons.2 ⟨⟨show w.heap.size ≠ O3 by omega, .tail _ (.head _)⟩, List.forall_mem_cons.2 ⟨⟨show w.heap.size + 1 ≠ O3 by omega, .tail _ (.tail _ (.head _))⟩, List.forall_mem_nil _⟩⟩)
          have hq2 := BF.set1 (i := 2) (cs' := #[.slice none 0 0, .slice a0 t.nb c0, .slice a1 t.nr c1, .slice none 0 0]) hq1 (.head _) (.slice a1 t.nr c1) (by simp) rfl (L' := [(w.heap.size, #[.slice x.ca t.nc x.cc, .slice x.ba t.nb x.bc, .slice x.ra t.nr x.rc, .slice x.na t.nn x.nc], 25), (w.heap.size + 1, #[.slice none 0 0, .slice none 0 0, .slice none 0 0, .slice none 0 0], 36)]) (List.forall_mem_cons.2 ⟨⟨show w.heap.size ≠ O3 by omega, .tail _ (.head _)⟩, List.forall_mem_cons.2 ⟨⟨show w.heap.size + 1 ≠ O3 by omega, .tail _ (.tail _ (.head _))⟩, List.forall_mem_nil _⟩⟩)
          have hq3 := BF.set1 (i := 3) (cs' := #[.slice none 0 0, .slice a0 t.nb c0, .slice a1 t.nr c1, .slice a2 t.nn c2]) hq2 (.head _) (.slice a2 t.nn c2) (by simp) rfl (L' := [(w.heap.size, #[.slice x.ca t.nc x.cc, .slice x.ba t.nb x.bc, .slice x.ra t.nr x.rc, .slice x.na t.nn x.nc], 25), (w.heap.size + 1, #[.slice none 0 0, .slice none 0 0, .slice none 0 0, .slice none 0 0], 36)]) (List.forall_mem_cons.2 ⟨⟨show w.heap.size ≠ O3 by omega, .tail _ (.head _)⟩, List.forall_mem_cons.2 ⟨⟨show w.heap.size + 1 ≠ O3 by omega, .tail _ (.tail _ (.head _))⟩, List.forall_mem_nil _⟩⟩)
          have HA4 := Lib.hid hq3
          have HZB : Hid (((((X3.setCell ⟨O3, 0, none⟩ (.slice none 0 0)).setCell ⟨O3, 1, none⟩ (.slice a0 t.nb c0)).setCell ⟨O3, 2, none⟩ (.slice a1 t.nr c1)).setCell ⟨O3, 3, none⟩ (.slice a2 t.nn c2)).ownsRow w.heap.size 29 2 (.slice a0 t.nb c0) t.nb (flatR t.b t.nb)) := own_fr HV3B.out hF (fun g' cur _ _ hc e => by subst e; rw [(HA3.out.bk _ _ _ (.head _)).2] at hc; cases hc)
          have HZR : Hid (((((X3.setCell ⟨O3, 0, none⟩ (.slice none 0 0)).setCell ⟨O3, 1, none⟩ (.slice a0 t.nb c0)).setCell ⟨O3, 2, none⟩ (.slice a1 t.nr c1)).setCell ⟨O3, 3, none⟩ (.slice a2 t.nn c2)).ownsRow w.heap.size 29 2 (.slice a1 t.nr c1) t.nr (flatR t.r t.nr)) := own_fr HV3R.out hF (fun g' cur _ _ hc e => by subst e; rw [(HA3.out.bk _ _ _ (.head _)).2] at hc; cases hc)
          have HZN : Hid (((((X3.setCell ⟨O3, 0, none⟩ (.slice none 0 0)).setCell ⟨O3, 1, none⟩ (.slice a0 t.nb c0)).setCell ⟨O3, 2, none⟩ (.slice a1 t.nr c1)).setCell ⟨O3, 3, none⟩ (.slice a2 t.nn c2)).ownsRow w.heap.size 29 2 (.slice a2 t.nn c2) t.nn (flatR t.n t.nn)) := own_fr HV3N.out hF (fun g' cur _ _ hc e => by subst e; rw [(HA3.out.bk _ _ _ (.head _)).2] at hc; cases hc)
          clear hq0 hq1 hq2 hq3 hF
          go_simp
          refine hK.out _ _ ?_
          clear hK K
          (try simp only [Act.put])
          clear e0 e1 e2 e3 f0 f1 f2 f3
          refine wpAnyZ_done (by kernel_rfl) ?_ _
          go_wp2_with fail
          go_meet
          exact ⟨O3, _, _, _, _, _, _, rfl, by omega, HA4.out, HZB.out, HZR.out, HZN.out⟩
        refine NextZ.cons (o := ⟨some 3, _, _, _, _, _⟩) rfl (fun K hK => ?_) NextZ.nil
        have HV5B : Hid ((X1.alloc (.cells #[.slice none 0 0, .slice none 0 0, .slice none 0 0, .slice none 0 0] 36)).ownsRow w.heap.size 29 2 (.slice a0 t.nb c0) t.nb (flatR t.b t.nb)) := HV1B.out.alloc _
        have HV5R : Hid ((X1.alloc (.cells #[.slice none 0 0, .slice none 0 0, .slice none 0 0, .slice none 0 0] 36)).ownsRow w.heap.size 29 2 (.slice a1 t.nr c1) t.nr (flatR t.r t.nr)) := HV1R.out.alloc _
        go_simp
        have HA5 := Lib.hid (HA1.out.alloc #[.slice none 0 0, .slice none 0 0, .slice none 0 0, .slice none 0 0] 36)
        have hn5T := (HA1.out.lt (.head _)).2
        have hn5R := (HA1.out.lt (.tail _ (.head _))).2
        have hn5_ := HA1.out.fr.size
        refine hK.out _ _ (⟨HA5.out.cell (.tail _ (.head _)) 0, HA5.out.cell (.tail _ (.head _)) 1, HA5.out.cell (.tail _ (.head _)) 2, HA5.out.cell (.tail _ (.head _)) 3⟩) (fun hS => ?_)
        clear hK K
        try simp only [Act.put, putA, putZ, putS]
        generalize X1.heap.size = O5 at *
        generalize (X1.alloc (.cells #[.slice none 0 0, .slice none 0 0, .slice none 0 0, .slice none 0 0] 36)) = X5 at *
        refine wpAnyZ_next (rs := [8]) (by kernel_rfl) (by simp) ?_
        refine NextZ.cons (o := ⟨some 13, _, _, _, _, _⟩) rfl (fun K hK => ?_) NextZ.nil
        go_simp
        refine (HN.out X5 HA5.out.fr).mono ?_
        rintro _ X6 ⟨v6, rfl, ho6, hb6⟩
        obtain ⟨a6, c6, rfl⟩ := own_slice' ho6
        (try go_wp2_with fail)
        have HV6B : Hid (X6.ownsRow w.heap.size 29 2 (.slice a0 t.nb c0) t.nb (flatR t.b t.nb)) := own_below HV5B.out hb6
        have HV6R : Hid (X6.ownsRow w.heap.size 29 2 (.slice a1 t.nr c1) t.nr (flatR t.r t.nr)) := own_below HV5R.out hb6
        have HV6N : Hid (X6.ownsRow w.heap.size 29 2 (.slice a6 t.nn c6) t.nn (flatR t.n t.nn)) := own_mono ho6 HA5.out.fr.size
        have HA6 := Lib.hid (HA5.out.below hb6)
        refine hK.out _ _ (⟨HA6.out.cell (.tail _ (.head _)) 0, HA6.out.cell (.tail _ (.head _)) 1, HA6.out.cell (.tail _ (.head _)) 2, HA6.out.cell (.tail _ (.head _)) 3⟩) (fun hS => ?_)
        clear hK K
        try simp only [Act.put, putA, putZ, putS]
        clear hb6 ho6
        refine tZ 9 (oi := ⟨_, _, _, _, _, _⟩) (v := ?_) rfl (by kernel_rfl) (by rfl) (fun _ _ _ h => h) hS ?_ ?_
        rotate_left
        · rintro W' ⟨z0, z1, z2, z3⟩; go_simp; try with_reducible rfl
        try simp only [Act.put, putA, putZ, putS]
        refine wpAnyZ_next (rs := [11]) (by kernel_rfl) (by simp) ?_
        refine NextZ.last (o := ⟨none, _, _, _, _, _⟩) rfl (by kernel_rfl) (fun K hK => ?_)
        have e0 := HA6.out.cell (.head _) 0
        have f0 := HA6.out.thaw (.head _) 0
        have e1 := HA6.out.cell (.head _) 1
        have f1 := HA6.out.thaw (.head _) 1
        have e2 := HA6.out.cell (.head _) 2
        have f2 := HA6.out.thaw (.head _) 2
        have e3 := HA6.out.cell (.head _) 3
        have f3 := HA6.out.thaw (.head _) 3
        obtain ⟨-, hF⟩ := set4' (HA6.out.bk _ _ _ (.head _)).2 (.slice none 0 0) (.slice a0 t.nb c0) (.slice a1 t.nr c1) (.slice a6 t.nn c6)
        have hq0 := BF.set1 (i := 0) (cs' := #[.slice none 0 0, .slice none 0 0, .slice none 0 0, .slice none 0 0]) HA6.out (.head _) (.slice none 0 0) (by simp) rfl (L' := [(w.heap.size, #[.slice x.ca t.nc x.cc, .slice x.ba t.nb x.bc, .slice x.ra t.nr x.rc, .slice x.na t.nn x.nc], 25), (w.heap.size + 1, #[.slice none 0 0, .slice none 0 0, .slice none 0 0, .slice none 0 0], 36)]) (List.forall_mem_cons.2 ⟨⟨show w.heap.size ≠ O5 by omega, (.tail _ (.head _))⟩, List.forall_mem_cons.2 ⟨⟨show w.heap.size + 1 ≠ O5 by omega, (.tail _ (.tail _ (.head _)))⟩, List.forall_mem_nil _⟩⟩)
        have hq1 := BF.set1 (i := 1) (cs' := #[.slice none 0 0, .slice a0 t.nb c0, .slice none 0 0, .slice none 0 0]) hq0 (.head _) (.slice a0 t.nb c0) (by simp) rfl (L' := [(w.heap.size, #[.slice x.ca t.nc x.cc, .slice x.ba t.nb x.bc, .slice x.ra t.nr x.rc, .slice x.na t.nn x.nc], 25), (w.heap.size + 1, #[.slice none 0 0, .slice none 0 0, .slice none 0 0, .slice none 0 0], 36)]) (List.forall_mem_cons.2 ⟨⟨show w.heap.size ≠ O5 by omega, .tail _ (.head _)⟩, List.forall_mem_cons.2 ⟨⟨show w.heap.size + 1 ≠ O5 by omega, .tail _ (.tail _ (.head _))⟩, List.forall_mem_nil _⟩⟩)
        have hq2 := BF.set1 (i := 2) (cs' := #[.slice none 0 0, .slice a0 t.nb c0, .slice a1 t.nr c1, .slice none 0 0]) hq1 (.head _) (.slice a1 t.nr c1) (by simp) rfl (L' := [(w.heap.size, #[.slice x.ca t.nc x.cc, .slice x.ba t.nb x.bc, .slice x.ra t.nr x.rc, .slice x.na t.nn x.nc], 25), (w.heap.size + 1, #[.slice none 0 0, .slice none 0 0, .slice none 0 0, .slice none 0 0], 36)]) (List.forall_mem_cons.2 ⟨⟨show w.heap.size ≠ O5 by omega, .tail _ (.head _)⟩, List.forall_mem_cons.2 ⟨⟨show w.heap.size + 1 ≠ O5 by omega, .tail _ (.tail _ (.head _))⟩, List.forall_mem_nil _⟩⟩)
        have hq3 := BF.set1 (i := 3) (cs' := #[.slice none 0 0, .slice a0 t.nb c0, .slice a1 t.nr c1, .slice a6 t.nn c6]) hq2 (.head _) (.slice a6 t.nn c6) (by simp) rfl (L' := [(w.heap.size, #[.slice x.ca t.nc x.cc, .slice x.ba t.nb x.bc, .slice x.ra t.nr x.rc, .slice x.na t.nn x.nc], 25), (w.heap.size + 1, #[.slice none 0 0, .slice none 0 0, .slice none 0 0, .slice none 0 0], 36)]) (List.forall_mem_cons.2 ⟨⟨show w.heap.size ≠ O5 by omega, .tail _ (.head _)⟩, List.forall_mem_cons.2 ⟨⟨show w.heap.size + 1 ≠ O5 by omega, .tail _ (.tail _ (.head _))⟩, List.forall_mem_nil _⟩⟩)
        have HA7 := Lib.hid hq3
        have HZB : Hid (((((X6.setCell ⟨O5, 0, none⟩ (.slice none 0 0)).setCell ⟨O5, 1, none⟩ (.slice a0 t.nb c0)).setCell ⟨O5, 2, none⟩ (.slice a1 t.nr c1)).setCell ⟨O5, 3, none⟩ (.slice a6 t.nn c6)).ownsRow w.heap.size 29 2 (.slice a0 t.nb c0) t.nb (flatR t.b t.nb)) := own_fr HV6B.out hF (fun g' cur _ _ hc e => by subst e; rw [(HA6.out.bk _ _ _ (.head _)).2] at hc; cases hc)
        have HZR : Hid (((((X6.setCell ⟨O5, 0, none⟩ (.slice none 0 0)).setCell ⟨O5, 1, none⟩ (.slice a0 t.nb c0)).setCell ⟨O5, 2, none⟩ (.slice a1 t.nr c1)).setCell ⟨O5, 3, none⟩ (.slice a6 t.nn c6)).ownsRow w.heap.size 29 2 (.slice a1 t.nr c1) t.nr (flatR t.r t.nr)) := own_fr HV6R.out hF (fun g' cur _ _ hc e => by subst e; rw [(HA6.out.bk _ _ _ (.head _)).2] at hc; cases hc)
        have HZN : Hid (((((X6.setCell ⟨O5, 0, none⟩ (.slice none 0 0)).setCell ⟨O5, 1, none⟩ (.slice a0 t.nb c0)).setCell ⟨O5, 2, none⟩ (.slice a1 t.nr c1)).setCell ⟨O5, 3, none⟩ (.slice a6 t.nn c6)).ownsRow w.heap.size 29 2 (.slice a6 t.nn c6) t.nn (flatR t.n t.nn)) := own_fr HV6N.out hF (fun g' cur _ _ hc e => by subst e; rw [(HA6.out.bk _ _ _ (.head _)).2] at hc; cases hc)
        clear hq0 hq1 hq2 hq3 hF
        go_simp
        refine hK.out _ _ ?_
        clear hK K
        (try simp only [Act.put])
        clear e0 e1 e2 e3 f0 f1 f2 f3
        refine wpAnyZ_done (by kernel_rfl) ?_ _
        go_wp2_with fail
        go_meet
        exact ⟨O5, _, _, _, _, _, _, rfl, by omega, HA7.out, HZB.out, HZR.out, HZN.out⟩
      refine NextZ.cons (o := ⟨some 3, _, _, _, _, _⟩) rfl (fun K hK => ?_) NextZ.nil
      have HV8B : Hid ((X0.alloc (.cells #[.slice none 0 0, .slice none 0 0, .slice none 0 0, .slice none 0 0] 36)).ownsRow w.heap.size 29 2 (.slice a0 t.nb c0) t.nb (flatR t.b t.nb)) := HV0B.out.alloc _
      go_simp
      have HA8 := Lib.hid (HA0.out.alloc #[.slice none 0 0, .slice none 0 0, .slice none 0 0, .slice none 0 0] 36)
      have hn8T := (HA0.out.lt (.head _)).2
      have hn8R := (HA0.out.lt (.tail _ (.head _))).2
      have hn8_ := HA0.out.fr.size
      refine hK.out _ _ (⟨HA8.out.cell (.tail _ (.head _)) 0, HA8.out.cell (.tail _ (.head _)) 1, HA8.out.cell (.tail _ (.head _)) 2, HA8.out.cell (.tail _ (.head _)) 3⟩) (fun hS => ?_)
      clear hK K
      try simp only [Act.put, putA, putZ, putS]
      generalize X0.heap.size = O8 at *
      generalize (X0.alloc (.cells #[.slice none 0 0, .slice none 0 0, .slice none 0 0, .slice none 0 0] 36)) = X8 at *
      refine wpAnyZ_next (rs := [5]) (by kernel_rfl) (by simp) ?_
      refine NextZ.cons (o := ⟨some 10, _, _, _, _, _⟩) rfl (fun K hK => ?_) NextZ.nil
      go_simp
      refine (HR.out X8 HA8.out.fr).mono ?_
      rintro _ X9 ⟨v9, rfl, ho9, hb9⟩
      obtain ⟨a9, c9, rfl⟩ := own_slice' ho9
      (try go_wp2_with fail)
      have HV9B : Hid (X9.ownsRow w.heap.size 29 2 (.slice a0 t.nb c0) t.nb (flatR t.b t.nb)) := own_below HV8B.out hb9
      have HV9R : Hid (X9.ownsRow w.heap.size 29 2 (.slice a9 t.nr c9) t.nr (flatR t.r t.nr)) := own_mono ho9 HA8.out.fr.size
      have HA9 := Lib.hid (HA8.out.below hb9)
      refine hK.out _ _ (⟨HA9.out.cell (.tail _ (.head _)) 0, HA9.out.cell (.tail _ (.head _)) 1, HA9.out.cell (.tail _ (.head _)) 2, HA9.out.cell (.tail _ (.head _)) 3⟩) (fun hS => ?_)
      clear hK K
      try simp only [Act.put, putA, putZ, putS]
      clear hb9 ho9
      refine wpAnyZ_next (rs := [8]) (by kernel_rfl) (by simp) ?_
      refine NextZ.cons (o := ⟨some 13, _, _, _, _, _⟩) rfl (fun K hK => ?_) NextZ.nil
      go_simp
      refine (HN.out X9 HA9.out.fr).mono ?_
      rintro _ X10 ⟨v10, rfl, ho10, hb10⟩
      obtain ⟨a10, c10, rfl⟩ := own_slice' ho10
      (try go_wp2_with fail)
      have HV10B : Hid (X10.ownsRow w.heap.size 29 2 (.slice a0 t.nb c0) t.nb (flatR t.b t.nb)) := own_below HV9B.out hb10
      have HV10R : Hid (X10.ownsRow w.heap.size 29 2 (.slice a9 t.nr c9) t.nr (flatR t.r t.nr)) := own_below HV9R.out hb10
      have HV10N : Hid (X10.ownsRow w.heap.size 29 2 (.slice a10 t.nn c10) t.nn (flatR t.n t.nn)) := own_mono ho10 HA9.out.fr.size
      have HA10 := Lib.hid (HA9.out.below hb10)
      refine hK.out _ _ (⟨HA10.out.cell (.tail _ (.head _)) 0, HA10.out.cell (.tail _ (.head _)) 1, HA10.out.cell (.tail _ (.head _)) 2, HA10.out.cell (.tail _ (.head _)) 3⟩) (fun hS => ?_)
      clear hK K
      try simp only [Act.put, putA, putZ, putS]
      clear hb10 ho10
      refine tZ 9 (oi := ⟨_, _, _, _, _, _⟩) (v := ?_) rfl (by kernel_rfl) (by rfl) (fun _ _ _ h => h) hS ?_ ?_
      rotate_left
      · rintro W' ⟨z0, z1, z2, z3⟩; go_simp; try with_reducible rfl
      try simp only [Act.put, putA, putZ, putS]
      refine wpAnyZ_next (rs := [11]) (by kernel_rfl) (by simp) ?_
      refine NextZ.last (o := ⟨none, _, _, _, _, _⟩) rfl (by kernel_rfl) (fun K hK => ?_)
      have e0 := HA10.out.cell (.head _) 0
      have f0 := HA10.out.thaw (.head _) 0
      have e1 := HA10.out.cell (.head _) 1
      have f1 := HA10.out.thaw (.head _) 1
      have e2 := HA10.out.cell (.head _) 2
      have f2 := HA10.out.thaw (.head _) 2
      have e3 := HA10.out.cell (.head _) 3
      have f3 := HA10.out.thaw (.head _) 3
      obtain ⟨-, hF⟩ := set4' (HA10.out.bk _ _ _ (.head _)).2 (.slice none 0 0) (.slice a0 t.nb c0) (.slice a9 t.nr c9) (.slice a10 t.nn c10)
      have hq0 := BF.set1 (i := 0) (cs' := #[.slice none 0 0, .slice none 0 0, .slice none 0 0, .slice none 0 0]) HA10.out (.head _) (.slice none 0 0) (by simp) rfl (L' := [(w.heap.size, #[.slice x.ca t.nc x.cc, .slice x.ba t.nb x.bc, .slice x.ra t.nr x.rc, .slice x.na t.nn x.nc], 25), (w.heap.size + 1, #[.slice none 0 0, .slice none 0 0, .slice none 0 0, .slice none 0 0], 36)]) (List.forall_mem_cons.2 ⟨⟨show w.heap.size ≠ O8 by omega, (.tail _ (.head _))⟩, List.forall_mem_cons.2 ⟨⟨show w.heap.size + 1 ≠ O8 by omega, (.tail _ (.tail _ (.head _)))⟩, List.forall_mem_nil _⟩⟩)
      have hq1 := BF.set1 (i := 1) (cs' := #[.slice none 0 0, .slice a0 t.nb c0, .slice none 0 0, .slice none 0 0]) hq0 (.head _) (.slice a0 t.nb c0) (by simp) rfl (L' := [(w.heap.size, #[.slice x.ca t.nc x.cc, .slice x.ba t.nb x.bc, .slice x.ra t.nr x.rc, .slice x.na t.nn x.nc], 25), (w.heap.size + 1, #[.slice none 0 0, .slice none 0 0, .slice none 0 0, .slice none 0 0], 36)]) (List.forall_mem_cons.2 ⟨⟨show w.heap.size ≠ O8 by omega, .tail _ (.head _)⟩, List.forall_mem_cons.2 ⟨⟨show w.heap.size + 1 ≠ O8 by omega, .tail _ (.tail _ (.head _))⟩, List.forall_mem_nil _⟩⟩)
      have hq2 := BF.set1 (i := 2) (cs' := #[.slice none 0 0, .slice a0 t.nb c0, .slice a9 t.nr c9, .slice none 0 0]) hq1 (.head _) (.slice a9 t.nr c9) (by simp) rfl (L' := [(w.heap.size, #[.slice x.ca t.nc x.cc, .slice x.ba t.nb x.bc, .slice x.ra t.nr x.rc, .slice x.na t.nn x.nc], 25), (w.heap.size + 1, #[.slice none 0 0, .slice none 0 0, .slice none 0 0, .slice none 0 0], 36)]) (List.forall_mem_cons.2 ⟨⟨show w.heap.size ≠ O8 by omega, .tail _ (.head _)⟩, List.forall_mem_cons.2 ⟨⟨show w.heap.size + 1 ≠ O8 by omega, .tail _ (.tail _ (.head _))⟩, List.forall_mem_nil _⟩⟩)
      have hq3 := BF.set1 (i := 3) (cs' := #[.slice none 0 0, .slice a0 t.nb c0, .slice a9 t.nr c9, .slice a10 t.nn c10]) hq2 (.head _) (.slice a10 t.nn c10) (by simp) rfl (L' := [(w.heap.size, #[.slice x.ca t.nc x.cc, .slice x.ba t.nb x.bc, .slice x.ra t.nr x.rc, .slice x.na t.nn x.nc], 25), (w.heap.size + 1, #[.slice none 0 0, .slice none 0 0, .slice none 0 0, .slice none 0 0], 36)]) (List.forall_mem_cons.2 ⟨⟨show w.heap.size ≠ O8 by omega, .tail _ (.head _)⟩, List.forall_mem_cons.2 ⟨⟨show w.heap.size + 1 ≠ O8 by omega, .tail _ (.tail _ (.head _))⟩, List.forall_mem_nil _⟩⟩)
      have HA11 := Lib.hid hq3
      have HZB : Hid (((((X10.setCell ⟨O8, 0, none⟩ (.slice none 0 0)).setCell ⟨O8, 1, none⟩ (.slice a0 t.nb c0)).setCell ⟨O8, 2, none⟩ (.slice a9 t.nr c9)).setCell ⟨O8, 3, none⟩ (.slice a10 t.nn c10)).ownsRow w.heap.size 29 2 (.slice a0 t.nb c0) t.nb (flatR t.b t.nb)) := own_fr HV10B.out hF (fun g' cur _ _ hc e => by subst e; rw [(HA10.out.bk _ _ _ (.head _)).2] at hc; cases hc)
      have HZR : Hid (((((X10.setCell ⟨O8, 0, none⟩ (.slice none 0 0)).setCell ⟨O8, 1, none⟩ (.slice a0 t.nb c0)).setCell ⟨O8, 2, none⟩ (.slice a9 t.nr c9)).setCell ⟨O8, 3, none⟩ (.slice a10 t.nn c10)).ownsRow w.heap.size 29 2 (.slice a9 t.nr c9) t.nr (flatR t.r t.nr)) := own_fr HV10R.out hF (fun g' cur _ _ hc e => by subst e; rw [(HA10.out.bk _ _ _ (.head _)).2] at hc; cases hc)
      have HZN : Hid (((((X10.setCell ⟨O8, 0, none⟩ (.slice none 0 0)).setCell ⟨O8, 1, none⟩ (.slice a0 t.nb c0)).setCell ⟨O8, 2, none⟩ (.slice a9 t.nr c9)).setCell ⟨O8, 3, none⟩ (.slice a10 t.nn c10)).ownsRow w.heap.size 29 2 (.slice a10 t.nn c10) t.nn (flatR t.n t.nn)) := own_fr HV10N.out hF (fun g' cur _ _ hc e => by subst e; rw [(HA10.out.bk _ _ _ (.head _)).2] at hc; cases hc)
      clear hq0 hq1 hq2 hq3 hF
      go_simp
      refine hK.out _ _ ?_
      clear hK K
      (try simp only [Act.put])
      clear e0 e1 e2 e3 f0 f1 f2 f3
      refine wpAnyZ_done (by kernel_rfl) ?_ _
      go_wp2_with fail
      go_meet
      exact ⟨O8, _, _, _, _, _, _, rfl, by omega, HA11.out, HZB.out, HZR.out, HZN.out⟩
    refine NextZ.cons (o := ⟨some 3, _, _, _, _, _⟩) rfl (fun K hK => ?_) NextZ.nil
    go_simp
    have HA12 := Lib.hid (HAX.out.alloc #[.slice none 0 0, .slice none 0 0, .slice none 0 0, .slice none 0 0] 36)
    have hn12T := (HAX.out.lt (.head _)).2
    have hn12R := (HAX.out.lt (.tail _ (.head _))).2
    have hn12_ := HAX.out.fr.size
    refine hK.out _ _ (⟨HA12.out.cell (.tail _ (.head _)) 0, HA12.out.cell (.tail _ (.head _)) 1, HA12.out.cell (.tail _ (.head _)) 2, HA12.out.cell (.tail _ (.head _)) 3⟩) (fun hS => ?_)
    clear hK K
    try simp only [Act.put, putA, putZ, putS]
    generalize X.heap.size = O12 at *
    generalize (X.alloc (.cells #[.slice none 0 0, .slice none 0 0, .slice none 0 0, .slice none 0 0] 36)) = X12 at *
    refine wpAnyZ_next (rs := [2]) (by kernel_rfl) (by simp) ?_
    refine NextZ.cons (o := ⟨some 7, _, _, _, _, _⟩) rfl (fun K hK => ?_) NextZ.nil
    go_simp
    refine (HB.out X12 HA12.out.fr).mono ?_
    rintro _ X13 ⟨v13, rfl, ho13, hb13⟩
    obtain ⟨a13, c13, rfl⟩ := own_slice' ho13
    (try go_wp2_with fail)
    have HV13B : Hid (X13.ownsRow w.heap.size 29 2 (.slice a13 t.nb c13) t.nb (flatR t.b t.nb)) := own_mono ho13 HA12.out.fr.size
    have HA13 := Lib.hid (HA12.out.below hb13)
    refine hK.out _ _ (⟨HA13.out.cell (.tail _ (.head _)) 0, HA13.out.cell (.tail _ (.head _)) 1, HA13.out.cell (.tail _ (.head _)) 2, HA13.out.cell (.tail _ (.head _)) 3⟩) (fun hS => ?_)
    clear hK K
    try simp only [Act.put, putA, putZ, putS]
    clear hb13 ho13
    refine wpAnyZ_next (rs := [5]) (by kernel_rfl) (by simp) ?_
    refine NextZ.cons (o := ⟨some 10, _, _, _, _, _⟩) rfl (fun K hK => ?_) NextZ.nil
    go_simp
    refine (HR.out X13 HA13.out.fr).mono ?_
    rintro _ X14 ⟨v14, rfl, ho14, hb14⟩
    obtain ⟨a14, c14, rfl⟩ := own_slice' ho14
    (try go_wp2_with fail)
    have HV14B : Hid (X14.ownsRow w.heap.size 29 2 (.slice a13 t.nb c13) t.nb (flatR t.b t.nb)) := own_below HV13B.out hb14
    have HV14R : Hid (X14.ownsRow w.heap.size 29 2 (.slice a14 t.nr c14) t.nr (flatR t.r t.nr)) := own_mono ho14 HA13.out.fr.size
    have HA14 := Lib.hid (HA13.out.below hb14)
    refine hK.out _ _ (⟨HA14.out.cell (.tail _ (.head _)) 0, HA14.out.cell (.tail _ (.head _)) 1, HA14.out.cell (.tail _ (.head _)) 2, HA14.out.cell (.tail _ (.head _)) 3⟩) (fun hS => ?_)
    clear hK K
    try simp only [Act.put, putA, putZ, putS]
    clear hb14 ho14
    refine wpAnyZ_next (rs := [8]) (by kernel_rfl) (by simp) ?_
    refine NextZ.cons (o := ⟨some 13, _, _, _, _, _⟩) rfl (fun K hK => ?_) NextZ.nil
    go_simp
    refine (HN.out X14 HA14.out.fr).mono ?_
    rintro _ X15 ⟨v15, rfl, ho15, hb15⟩
    obtain ⟨a15, c15, rfl⟩ := own_slice' ho15
    (try go_wp2_with fail)
    have HV15B : Hid (X15.ownsRow w.heap.size 29 2 (.slice a13 t.nb c13) t.nb (flatR t.b t.nb)) := own_below HV14B.out hb15
    have HV15R : Hid (X15.ownsRow w.heap.size 29 2 (.slice a14 t.nr c14) t.nr (flatR t.r t.nr)) := own_below HV14R.out hb15
    have HV15N : Hid (X15.ownsRow w.heap.size 29 2 (.slice a15 t.nn c15) t.nn (flatR t.n t.nn)) := own_mono ho15 HA14.out.fr.size
    have HA15 := Lib.hid (HA14.out.below hb15)
    refine hK.out _ _ (⟨HA15.out.cell (.tail _ (.head _)) 0, HA15.out.cell (.tail _ (.head _)) 1, HA15.out.cell (.tail _ (.head _)) 2, HA15.out.cell (.tail _ (.head _)) 3⟩) (fun hS => ?_)
    clear hK K
    try simp only [Act.put, putA, putZ, putS]
    clear hb15 ho15
    refine tZ 9 (oi := ⟨_, _, _, _, _, _⟩) (v := ?_) rfl (by kernel_rfl) (by rfl) (fun _ _ _ h => h) hS ?_ ?_
    rotate_left
    · rintro W' ⟨z0, z1, z2, z3⟩; go_simp; try with_reducible rfl
    try simp only [Act.put, putA, putZ, putS]
    refine wpAnyZ_next (rs := [11]) (by kernel_rfl) (by simp) ?_
    refine NextZ.last (o := ⟨none, _, _, _, _, _⟩) rfl (by kernel_rfl) (fun K hK => ?_)
    have e0 := HA15.out.cell (.head _) 0
    have f0 := HA15.out.thaw (.head _) 0
    have e1 := HA15.out.cell (.head _) 1
    have f1 := HA15.out.thaw (.head _) 1
    have e2 := HA15.out.cell (.head _) 2
    have f2 := HA15.out.thaw (.head _) 2
    have e3 := HA15.out.cell (.head _) 3
    have f3 := HA15.out.thaw (.head _) 3
    obtain ⟨-, hF⟩ := set4' (HA15.out.bk _ _ _ (.head _)).2 (.slice none 0 0) (.slice a13 t.nb c13) (.slice a14 t.nr c14) (.slice a15 t.nn c15)
    have hq0 := BF.set1 (i := 0) (cs' := #[.slice none 0 0, .slice none 0 0, .slice none 0 0, .slice none 0 0]) HA15.out (.head _) (.slice none 0 0) (by simp) rfl (L' := [(w.heap.size, #[.slice x.ca t.nc x.cc, .slice x.ba t.nb x.bc, .slice x.ra t.nr x.rc, .slice x.na t.nn x.nc], 25), (w.heap.size + 1, #[.slice none 0 0, .slice none 0 0, .slice none 0 0, .slice none 0 0], 36)]) (List.forall_mem_cons.2 ⟨⟨show w.heap.size ≠ O12 by omega, (.tail _ (.head _))⟩, List.forall_mem_cons.2 ⟨⟨show w.heap.size + 1 ≠ O12 by omega, (.tail _ (.tail _ (.head _)))⟩, List.forall_mem_nil _⟩⟩)
    have hq1 := BF.set1 (i := 1) (cs' := #[.slice none 0 0, .slice a13 t.nb c13, .slice none 0 0, .slice none 0 0]) hq0 (.head _) (.slice a13 t.nb c13) (by simp) rfl (L' := [(w.heap.size, #[.slice x.ca t.nc x.cc, .slice x.ba t.nb x.bc, .slice x.ra t.nr x.rc, .slice x.na t.nn x.nc], 25), (w.heap.size + 1, #[.slice none 0 0, .slice none 0 0, .slice none 0 0, .slice none 0 0], 36)]) (List.forall_mem_cons.2 ⟨⟨show w.heap.size ≠ O12 by omega, .tail _ (.head _)⟩, List.forall_mem_cons.2 ⟨⟨show w.heap.size + 1 ≠ O12 by omega, .tail _ (.tail _ (.head _))⟩, List.forall_mem_nil _⟩⟩)
    have hq2 := BF.set1 (i := 2) (cs' := #[.slice none 0 0, .slice a13 t.nb c13, .slice a14 t.nr c14, .slice none 0 0]) hq1 (.head _) (.slice a14 t.nr c14) (by simp) rfl (L' := [(w.heap.size, #[.slice x.ca t.nc x.cc, .slice x.ba t.nb x.bc, .slice x.ra t.nr x.rc, .slice x.na t.nn x.nc], 25), (w.heap.size + 1, #[.slice none 0 0, .slice none 0 0, .slice none 0 0, .slice none 0 0], 36)]) (List.forall_mem_cons.2 ⟨⟨show w.heap.size ≠ O12 by omega, .tail _ (.head _)⟩, List.forall_mem_cons.2 ⟨⟨show w.heap.size + 1 ≠ O12 by omega, .tail _ (.tail _ (.head _))⟩, List.forall_mem_nil _⟩⟩)
    have hq3 := BF.set1 (i := 3) (cs' := #[.slice none 0 0, .slice a13 t.nb c13, .slice a14 t.nr c14, .slice a15 t.nn c15]) hq2 (.head _) (.slice a15 t.nn c15) (by simp) rfl (L' := [(w.heap.size, #[.slice x.ca t.nc x.cc, .slice x.ba t.nb x.bc, .slice x.ra t.nr x.rc, .slice x.na t.nn x.nc], 25), (w.heap.size + 1, #[.slice none 0 0, .slice none 0 0, .slice none 0 0, .slice none 0 0], 36)]) (List.forall_mem_cons.2 ⟨⟨show w.heap.size ≠ O12 by omega, .tail _ (.head _)⟩, List.forall_mem_cons.2 ⟨⟨show w.heap.size + 1 ≠ O12 by omega, .tail _ (.tail _ (.head _))⟩, List.forall_mem_nil _⟩⟩)
    have HA16 := Lib.hid hq3
    have HZB : Hid (((((X15.setCell ⟨O12, 0, none⟩ (.slice none 0 0)).setCell ⟨O12, 1, none⟩ (.slice a13 t.nb c13)).setCell ⟨O12, 2, none⟩ (.slice a14 t.nr c14)).setCell ⟨O12, 3, none⟩ (.slice a15 t.nn c15)).ownsRow w.heap.size 29 2 (.slice a13 t.nb c13) t.nb (flatR t.b t.nb)) := own_fr HV15B.out hF (fun g' cur _ _ hc e => by subst e; rw [(HA15.out.bk _ _ _ (.head _)).2] at hc; cases hc)
    have HZR : Hid (((((X15.setCell ⟨O12, 0, none⟩ (.slice none 0 0)).setCell ⟨O12, 1, none⟩ (.slice a13 t.nb c13)).setCell ⟨O12, 2, none⟩ (.slice a14 t.nr c14)).setCell ⟨O12, 3, none⟩ (.slice a15 t.nn c15)).ownsRow w.heap.size 29 2 (.slice a14 t.nr c14) t.nr (flatR t.r t.nr)) := own_fr HV15R.out hF (fun g' cur _ _ hc e => by subst e; rw [(HA15.out.bk _ _ _ (.head _)).2] at hc; cases hc)
    have HZN : Hid (((((X15.setCell ⟨O12, 0, none⟩ (.slice none 0 0)).setCell ⟨O12, 1, none⟩ (.slice a13 t.nb c13)).setCell ⟨O12, 2, none⟩ (.slice a14 t.nr c14)).setCell ⟨O12, 3, none⟩ (.slice a15 t.nn c15)).ownsRow w.heap.size 29 2 (.slice a15 t.nn c15) t.nn (flatR t.n t.nn)) := own_fr HV15N.out hF (fun g' cur _ _ hc e => by subst e; rw [(HA15.out.bk _ _ _ (.head _)).2] at hc; cases hc)
    clear hq0 hq1 hq2 hq3 hF
    go_simp
    refine hK.out _ _ ?_
    clear hK K
    (try simp only [Act.put])
    clear e0 e1 e2 e3 f0 f1 f2 f3
    refine wpAnyZ_done (by kernel_rfl) ?_ _
    go_wp2_with fail
    go_meet
    exact ⟨O12, _, _, _, _, _, _, rfl, by omega, HA16.out, HZB.out, HZR.out, HZN.out⟩
  case rest =>
    obtain ⟨O, ba, bc', ra', rc', na, nc', rfl, hOR, hbf, h1, h2, h3⟩ := hcut
    have HA1 := Lib.hid hbf; have HV1 := Lib.hid h1; have HV2 := Lib.hid h2; have HV3 := Lib.hid h3
    clear hbf h1 h2 h3 HA0 HB HR HN
    go_wp2_with fail
    go_loopw [4] (fun i wr => ∃ (k : Nat) (v : Value) (vs : Nat → Value), k ≤ t.nc ∧ i = .int .i64 k ∧ BF w wr [(O, #[v, .slice ba t.nb bc', .slice ra' t.nr rc', .slice na t.nn nc'], 36), (w.heap.size, #[.slice x.ca t.nc x.cc, .slice x.ba t.nb x.bc, .slice x.ra t.nr x.rc, .slice x.na t.nn x.nc], 25), (w.heap.size + 1, #[.slice none 0 0, .slice none 0 0, .slice none 0 0, .slice none 0 0], 36)] ∧ (wr.ownsRow w.heap.size 29 2 (.slice ba t.nb bc') t.nb (flatR t.b t.nb)) ∧ (wr.ownsRow w.heap.size 29 2 (.slice ra' t.nr rc') t.nr (flatR t.r t.nr)) ∧ (wr.ownsRow w.heap.size 29 2 (.slice na t.nn nc') t.nn (flatR t.n t.nn)) ∧ RowsO w.heap.size wr v k t.rl t.ct vs) (fun i _ => t.nc - (intOf i).toNat)
    case atStart => exact ⟨0, _, _, Nat.zero_le _, rfl, HA1.out, HV1.out, HV2.out, HV3.out, RowsO.nil _ _ _ _⟩
    case round =>
      clear HA1 HV1 HV2 HV3
      obtain ⟨k, v, vs, hk, rfl, hbf, h1, h2, h3, h4⟩ := hrel
      obtain ⟨va, vc, rfl⟩ := own_slice' h4.1
      have HA1 := Lib.hid hbf; have HV1 := Lib.hid h1; have HV2 := Lib.hid h2; have HV3 := Lib.hid h3; have HV4 := Lib.hid h4
      clear hbf h1 h2 h3 h4
      obtain ⟨hb0, hb1⟩ := HA1.out.lt (.tail _ (.head _))
      have c0 := HA1.out.cell (.tail _ (.head _)) 0
      by_cases hlt : k < t.nc
      · obtain ⟨bc, oc, ra, rc, hca, hbc, hx, hrow⟩ := HC.out.at hlt
        have HRW : Hid (∀ X, Below w.heap.size w X → Calls Try.prog 62 #[.slice ra (t.rl k) rc] X fun e w' => ∃ v', e = .returned v' ∧ w'.ownsRow X.heap.size 29 2 v' (t.rl k) (flatR (t.ct k) (t.rl k)) ∧ Below X.heap.size X w') := fun X hX => ranges_own _ _ _ _ (hrow.below hX) (hrs.out k)
        have HCB : Hid (∀ X, BF w X [(O, #[.slice va k vc, .slice ba t.nb bc', .slice ra' t.nr rc', .slice na t.nn nc'], 36), (w.heap.size, #[.slice x.ca t.nc x.cc, .slice x.ba t.nb x.bc, .slice x.ra t.nr x.rc, .slice x.na t.nn x.nc], 25), (w.heap.size + 1, #[.slice none 0 0, .slice none 0 0, .slice none 0 0, .slice none 0 0], 36)] → X.cell? ⟨O, 0, none⟩ = some (.slice va k vc) ∧ X.cell? ⟨w.heap.size, 0, none⟩ = some (.slice (some ⟨bc, oc, none⟩) t.nc x.cc) ∧ X.cell? ⟨bc, oc + k, none⟩ = some (.slice ra (t.rl k) rc)) := fun X hB => ⟨hB.cell (.head _) 0, by rw [← hca]; exact hB.cell (.tail _ (.head _)) 0, kept hB.fr hbc hx⟩
        have HCK : Hid (∀ X, Below wr.heap.size wr X → X.cell? ⟨O, 0, none⟩ = some (.slice va k vc) ∧ X.cell? ⟨w.heap.size, 0, none⟩ = some (.slice (some ⟨bc, oc, none⟩) t.nc x.cc) ∧ X.cell? ⟨bc, oc + k, none⟩ = some (.slice ra (t.rl k) rc)) := fun X hX => HCB.out X (HA1.out.below hX)
        have HAX : Hid (Below wr.heap.size wr wr.drew) := (Below.refl _ _).drew
        have ki : (0 : Int) ≤ (k : Int) := by omega
        have kj : (k : Int) < (t.nc : Int) := by omega
        clear hrow hx hca
        go_wp2_with fail
        refine wp_region_Z (S := fun X => X.cell? ⟨O, 0, none⟩ = some (.slice va k vc) ∧ X.cell? ⟨w.heap.size, 0, none⟩ = some (.slice (some ⟨bc, oc, none⟩) t.nc x.cc) ∧ X.cell? ⟨bc, oc + k, none⟩ = some (.slice ra (t.rl k) rc)) (by kernel_rfl) (HCK.out _ HAX.out) (fun hS => ?_)
        generalize wr.drew = X at *
        refine tk [0, 1, 2, 3, 4, 5, 6] ?_
        repeat (refine tkZ (oi := ⟨_, _, _, _, _, _⟩) (v := ?_) rfl (by kernel_rfl) (by rfl) (fun _ _ _ h => h) hS ?_ ?_; rotate_left; (· rintro W' ⟨z0, z1, z2⟩; go_simp; try with_reducible rfl); try simp only [Act.put, putA, putZ, putS])
        refine tk0 ?_
        refine wpAnyZ_next (rs := [7]) (by kernel_rfl) (by simp) ?_
        refine NextZ.cons (o := ⟨some 29, _, _, _, _, _⟩) rfl (fun K hK => ?_) NextZ.nil
        go_simp
        refine (HRW.out X (below_step HA1.out.fr HAX.out)).mono ?_
        rintro _ X0 ⟨v0, rfl, ho0, hb0⟩
        obtain ⟨a0, c0, rfl⟩ := own_slice' ho0
        (try go_wp2_with fail)
        have HB0 : Hid (Below wr.heap.size wr X0) := below_step HAX.out hb0
        have HU0 : Hid (X0.ownsRow w.heap.size 29 2 (.slice a0 (t.rl k) c0) (t.rl k) (flatR (t.ct k) (t.rl k))) := own_mono ho0 (below_step HA1.out.fr HAX.out).size
        clear hb0 ho0
        refine hK.out _ _ (HCK.out X0 HB0.out) (fun hS => ?_)
        clear hK K
        try simp only [Act.put, putA, putZ, putS]
        refine wpAnyZ_next (rs := [8]) (by kernel_rfl) (by simp) ?_
        refine NextZ.cons (o := ⟨some 30, _, _, _, _, _⟩) rfl (fun K hK => ?_) NextZ.nil
        go_simp
        have HB1 : Hid (Below wr.heap.size wr (X0.alloc (.cells #[.slice a0 (t.rl k) c0] 34))) := below_step HB0.out (below_alloc _ _)
        have HU1 : Hid ((X0.alloc (.cells #[.slice a0 (t.rl k) c0] 34)).ownsRow w.heap.size 29 2 (.slice a0 (t.rl k) c0) (t.rl k) (flatR (t.ct k) (t.rl k))) := HU0.out.alloc _
        have HJ : Hid ((X0.alloc (.cells #[.slice a0 (t.rl k) c0] 34)).heap[X0.heap.size]? = some (.cells #[.slice a0 (t.rl k) c0] 34 (0, 0))) := heap_alloc_new X0 _
        refine hK.out _ _ (HCK.out (X0.alloc (.cells #[.slice a0 (t.rl k) c0] 34)) HB1.out) (fun hS => ?_)
        clear hK K
        try simp only [Act.put, putA, putZ, putS]
        generalize X0.heap.size = J at *
        generalize (X0.alloc (.cells #[.slice a0 (t.rl k) c0] 34)) = X1 at *
        refine wpAnyZ_next (rs := [9]) (by kernel_rfl) (by simp) ?_
        refine NextZ.cons (o := ⟨some 31, _, _, _, _, _⟩) rfl (fun K hK => ?_) NextZ.nil
        refine step_append_src X1 (by rfl) (.tmp 23) (.tmp 30) 33 (by rfl) w.heap.size 34 i4 (.slice none 0 0) 1 24 Try.underlying33 hi4 hv0 hv1 hv2 rfl (by decide) (.slice va k vc) k ((List.range k).map vs) (by rfl) (own_below HV4.out.1 HB1.out) (some ⟨J, 0, none⟩) 1 1 [.slice a0 (t.rl k) c0] (by rfl) ⟨rfl, fun j u hu => ⟨_, rfl, World.news_of_block HJ.out j u hu⟩⟩ (by simp [Value.oneCell']) (by unfold maxLen; omega) (by omega) (Nat.le_trans HA1.out.fr.size HB1.out.size) ?_
        intro v1 Y hown hgr hlt1
        obtain ⟨va1, vc1, rfl⟩ := own_slice' hown
        have HRO := Lib.hid ((HV4.out.below HB1.out).step HU1.out hown hgr)
        have hne : ∀ b cs T, T ≠ 34 → X1.heap[b]? = some (.cells cs T (0, 0)) → ¬ (Value.slice va k vc).ownBlock = some b := fun b cs T hT hb e => by
          rcases (own_below HV4.out.1 HB1.out).2 with ⟨e1, _⟩ | ⟨g', cap, cur', e1, _, hg, _⟩
          · rw [e1] at e; cases e
          · rw [e1] at e; cases e; rw [hb] at hg; cases hg; exact hT rfl
        have hB1 := HA1.out.below HB1.out
        have hfg := Fr.grown hgr
        have hbfY : BF w Y [(O, #[.slice va k vc, .slice ba t.nb bc', .slice ra' t.nr rc', .slice na t.nn nc'], 36), (w.heap.size, #[.slice x.ca t.nc x.cc, .slice x.ba t.nb x.bc, .slice x.ra t.nr x.rc, .slice x.na t.nn x.nc], 25), (w.heap.size + 1, #[.slice none 0 0, .slice none 0 0, .slice none 0 0, .slice none 0 0], 36)] := hB1.fro hfg (fun q hq e => by have := ((own_below HV4.out.1 HB1.out).lt q e).1; omega) (List.forall_mem_cons.2 ⟨fun e => hne _ _ _ (by decide) (hB1.bk _ _ _ (.head _)).2 e, List.forall_mem_cons.2 ⟨fun e => hne _ _ _ (by decide) (hB1.bk _ _ _ (.tail _ (.head _))).2 e, List.forall_mem_cons.2 ⟨fun e => hne _ _ _ (by decide) (hB1.bk _ _ _ (.tail _ (.tail _ (.head _)))).2 e, List.forall_mem_nil _⟩⟩⟩)
        have HBY := Lib.hid hbfY
        have HY1 : Hid (Y.ownsRow w.heap.size 29 2 (.slice ba t.nb bc') t.nb (flatR t.b t.nb)) := own_fr (own_below HV1.out HB1.out) hfg (fun g cur _ _ hc => hne g cur _ (by decide) hc)
        have HY2 : Hid (Y.ownsRow w.heap.size 29 2 (.slice ra' t.nr rc') t.nr (flatR t.r t.nr)) := own_fr (own_below HV2.out HB1.out) hfg (fun g cur _ _ hc => hne g cur _ (by decide) hc)
        have HY3 : Hid (Y.ownsRow w.heap.size 29 2 (.slice na t.nn nc') t.nn (flatR t.n t.nn)) := own_fr (own_below HV3.out HB1.out) hfg (fun g cur _ _ hc => hne g cur _ (by decide) hc)
        have hYS := HCB.out Y hbfY
        clear hown hgr hlt1 hne hB1 hfg hbfY
        refine hK.out _ _ hYS (fun hS => ?_)
        clear hK K
        try simp only [Act.put, putA, putZ, putS]
        refine tZ 10 (oi := ⟨_, _, _, _, _, _⟩) (v := ?_) rfl (by kernel_rfl) (by rfl) (fun _ _ _ h => h) hS ?_ ?_
        rotate_left
        · rintro W' ⟨z0, z1, z2⟩; go_simp; try with_reducible rfl
        try simp only [Act.put, putA, putZ, putS]
        refine wpAnyZ_next (rs := [11]) (by kernel_rfl) (by simp) ?_
        refine NextZ.last (o := ⟨none, _, _, _, _, _⟩) rfl (by kernel_rfl) (fun K hK => ?_)
        have e0 := HBY.out.cell (.head _) 0
        have f0 := HBY.out.thaw (.head _) 0
        have HZ := Lib.hid (BF.set1 (i := 0) (cs' := #[.slice va1 (k + 1) vc1, .slice ba t.nb bc', .slice ra' t.nr rc', .slice na t.nn nc']) HBY.out (.head _) (.slice va1 (k + 1) vc1) (by simp) rfl (L' := [(w.heap.size, #[.slice x.ca t.nc x.cc, .slice x.ba t.nb x.bc, .slice x.ra t.nr x.rc, .slice x.na t.nn x.nc], 25), (w.heap.size + 1, #[.slice none 0 0, .slice none 0 0, .slice none 0 0, .slice none 0 0], 36)]) (List.forall_mem_cons.2 ⟨⟨show w.heap.size ≠ O by omega, (.tail _ (.head _))⟩, List.forall_mem_cons.2 ⟨⟨show w.heap.size + 1 ≠ O by omega, (.tail _ (.tail _ (.head _)))⟩, List.forall_mem_nil _⟩⟩))
        have hfs := Fr.set Y O 0 (.slice va1 (k + 1) vc1)
        have hnO : ∀ b cs T, T ≠ 36 → Y.heap[b]? = some (.cells cs T (0, 0)) → ¬ b = O := fun b cs T hT hb e => by subst e; rw [(HBY.out.bk _ _ _ (.head _)).2] at hb; cases hb; exact hT rfl
        have HQ1 : Hid ((Y.setCell ⟨O, 0, none⟩ (.slice va1 (k + 1) vc1)).ownsRow w.heap.size 29 2 (.slice ba t.nb bc') t.nb (flatR t.b t.nb)) := own_fr HY1.out hfs (fun g cur _ _ hc => hnO g cur _ (by decide) hc)
        have HQ2 : Hid ((Y.setCell ⟨O, 0, none⟩ (.slice va1 (k + 1) vc1)).ownsRow w.heap.size 29 2 (.slice ra' t.nr rc') t.nr (flatR t.r t.nr)) := own_fr HY2.out hfs (fun g cur _ _ hc => hnO g cur _ (by decide) hc)
        have HQ3 : Hid ((Y.setCell ⟨O, 0, none⟩ (.slice va1 (k + 1) vc1)).ownsRow w.heap.size 29 2 (.slice na t.nn nc') t.nn (flatR t.n t.nn)) := own_fr HY3.out hfs (fun g cur _ _ hc => hnO g cur _ (by decide) hc)
        have HQ4 := Lib.hid (HRO.out.fr hfs hnO)
        clear hfs hnO
        go_simp
        refine hK.out _ _ ?_
        clear hK K e0 f0
        (try simp only [Act.put])
        refine wpAnyZ_done (by kernel_rfl) ?_ _
        go_wp2_with fail
        go_roundw
        case rel => exact ⟨k + 1, _, _, by omega, by go_num, HZ.out, HQ1.out, HQ2.out, HQ3.out, HQ4.out⟩
        case measure => simp [intOf]; omega
      · obtain rfl : k = t.nc := by omega
        have d0 := HA1.out.cell (.head _) 0
        have d1 := HA1.out.cell (.head _) 1
        have d2 := HA1.out.cell (.head _) 2
        have d3 := HA1.out.cell (.head _) 3
        have r0 := HA1.out.cell (.tail _ (.tail _ (.head _))) 0
        have r1 := HA1.out.cell (.tail _ (.tail _ (.head _))) 1
        have r2 := HA1.out.cell (.tail _ (.tail _ (.head _))) 2
        have r3 := HA1.out.cell (.tail _ (.tail _ (.head _))) 3
        have f0 := HA1.out.thaw (.tail _ (.tail _ (.head _))) 0
        have f1 := HA1.out.thaw (.tail _ (.tail _ (.head _))) 1
        have f2 := HA1.out.thaw (.tail _ (.tail _ (.head _))) 2
        have f3 := HA1.out.thaw (.tail _ (.tail _ (.head _))) 3
        go_wp2_with fail
        obtain ⟨hk, hF⟩ := set4' (HA1.out.bk _ _ _ (.tail _ (.tail _ (.head _)))).2 (.slice va t.nc vc) (.slice ba t.nb bc') (.slice ra' t.nr rc') (.slice na t.nn nc')
        have z0 := cell_of_row _ _ 0 _ _ _ hk
        have z1 := cell_of_row _ _ 1 _ _ _ hk
        have z2 := cell_of_row _ _ 2 _ _ _ hk
        have z3 := cell_of_row _ _ 3 _ _ _ hk
        have hx : ∀ b cs T, T ≠ 36 → wr.heap[b]? = some (.cells cs T (0, 0)) → ¬ b = w.heap.size + 1 := fun b cs T hT hb e => by subst e; rw [(HA1.out.bk _ _ _ (.tail _ (.tail _ (.head _)))).2] at hb; cases hb; exact hT rfl
        refine bodyPost_ret (v := .agg #[.slice va t.nc vc, .slice ba t.nb bc', .slice ra' t.nr rc', .slice na t.nn nc']) (by simp [results, Try.results20, go_sem, z0, z1, z2, z3]) rfl ⟨⟨va, vc, ba, bc', ra', rc', na, nc'⟩, rfl, ⟨(HV4.out.fr hF hx).rows, RsAt.own (own_fr HV1.out hF (fun g _ _ _ hc => hx g _ _ (by decide) hc)), RsAt.own (own_fr HV2.out hF (fun g _ _ _ hc => hx g _ _ (by decide) hc)), RsAt.own (own_fr HV3.out hF (fun g _ _ _ hc => hx g _ _ (by decide) hc))⟩, HA1.out.fr.trans (hF.low HA1.out.fr.size (fun q hq e => by omega))⟩
end Go.Proofs.Ytjaoflfophcibaa

namespace Go.Proofs.Ytjaoflfophcibaa
open Go.RowKit Go.Shelf

set_option maxHeartbeats 1000000 in
theorem rIn_any (a b c : Int) (w : World) :
    Calls Try.prog 22 #[.int .i64 a, .int .i64 b, .int .i64 c] w fun e w' => e = .returned (.bool (inB a b c)) ∧ w = w' := by
  go_enter Try.func22, Try.ntmps22
  go_wp2
  all_goals go_ret
  all_goals (refine ⟨?_, rfl⟩; congr 2; simp [inB]; omega)
set_option maxHeartbeats 1000000 in
theorem span_any (a b lo hi : Int) (w : World) :
    Calls Try.prog 32 #[.agg #[.int .i64 a, .int .i64 b], .int .i64 lo, .int .i64 hi] w fun e w' => e = .returned (.bool (insideR (a, b) lo hi)) ∧ Below w.heap.size w w' := by
  cases h : inB a lo b
  · go_enter Try.func32, Try.ntmps32
    go_wp2_with (go_at_call 22; refine (rIn_any _ _ _ _).mono ?_; rw [h]; rintro _ w1 ⟨rfl, rfl⟩)
    go_ret
    refine ⟨ret_bool ?_, below_alloc _ _⟩
    unfold inB at h; unfold insideR; simp only at h ⊢; rw [h]; rfl
  · by_cases h2 : b ≤ hi
    all_goals
      go_enter Try.func32, Try.ntmps32
      go_wp2_with (go_at_call 22; refine (rIn_any _ _ _ _).mono ?_; rw [h]; rintro _ w1 ⟨rfl, rfl⟩)
      go_ret
      refine ⟨ret_bool ?_, below_alloc _ _⟩
      unfold inB at h; unfold insideR; simp only at h ⊢; rw [h]; simp [h2]
set_option maxRecDepth 100000 in
set_option maxHeartbeats 1000000 in
theorem rgroups_any (v : Value) (t : Tb) (w : World) (h : TbIn w v t) (hs : t.small) :
    Calls Try.prog 23 #[v] w fun e w' => e = .returned (.int .i64 (t.ng : Nat)) ∧ Below w.heap.size w w' := by
  obtain ⟨ca, cc, ba, bc, ra, rc, na, nc, rfl, h1, _⟩ := h
  have h0 := hs.1
  by_cases hz : t.nc = 0
  · have HE : Hid (t.ng = 0) := by unfold Hid Tb.ng; rw [if_pos hz]
    clear h1
    generalize t.nc = k at *
    subst hz
    go_enter Try.func23, Try.ntmps23
    go_wp2
    go_ret
    exact ⟨ret_int (by rw [HE.out]; rfl), below_alloc _ _⟩
  · have HE : Hid (t.ng = t.rl 0) := by unfold Hid Tb.ng; rw [if_neg hz]
    obtain ⟨b, off, qa, qc, rfl, hb, hc, _⟩ := (h1.below (below_alloc w (.cells #[.slice ca t.nc cc, .slice ba t.nb bc, .slice ra t.nr rc, .slice na t.nn nc] 25))).at (k := 0) (by omega)
    rw [Nat.add_zero] at hc
    have hr := hs.2.1 0
    have hnz : ((t.nc : Int) == 0) = false := by simp; omega
    have hp : (0 : Int) < (t.nc : Int) := by omega
    clear h1 hs hz hb
    generalize t.nc = k at *
    generalize t.rl 0 = l at *
    go_enter Try.func23, Try.ntmps23
    go_wp2
    go_ret
    exact ⟨ret_int (by rw [HE.out]), below_alloc _ _⟩
end Go.Proofs.Ytjaoflfophcibaa
