/- Play (of the reference). -/
import Derived.Test.YtjaoflfophcibaaPJ
namespace Go.Proofs.Ytjaoflfophcibaa
open Go.RowKit Go.Shelf

theorem Try.infoInt : (Try.prog.info? 3).map (fun i => (i.zero, i.size, i.bytes)) = some (some (.int .i64 0), 1, 8) := by kernel_rfl
theorem Try.infoInts : (Try.prog.info? 72).map (fun i => (i.zero, i.size, i.bytes)) = some (some (.slice none 0 0), 1, 24) := by kernel_rfl
/-- Worlds that agree above B. -/
structure Abv (B : Nat) (W X : World) : Prop where
  size : W.heap.size ≤ X.heap.size
  block : ∀ b, B ≤ b → b < W.heap.size → X.heap[b]? = W.heap[b]?
theorem Abv.refl (B : Nat) (W : World) : Abv B W W := ⟨Nat.le_refl _, fun _ _ _ => rfl⟩
theorem Abv.fr {ex : Nat → Prop} {B : Nat} {W X : World} (h : Fr ex W X) (hx : ∀ b, B ≤ b → ¬ ex b) : Abv B W X := ⟨h.size, fun b h1 h2 => h.block b h2 (hx b h1)⟩
theorem Abv.below {B : Nat} {W X : World} (h : Below W.heap.size W X) : Abv B W X := ⟨h.size, fun b _ h2 => h.block b h2⟩
theorem Abv.trans {B : Nat} {W X Y : World} (h : Abv B W X) (k : Abv B X Y) : Abv B W Y := ⟨Nat.le_trans h.size k.size, fun b h1 h2 => (k.block b h1 (Nat.lt_of_lt_of_le h2 h.size)).trans (h.block b h1 h2)⟩
theorem Abv.mono {B C : Nat} {W X : World} (h : Abv B W X) (hb : B ≤ C) : Abv C W X := ⟨h.size, fun b h1 h2 => h.block b (Nat.le_trans hb h1) h2⟩
theorem own_abv {B base T size n : Nat} {W X : World} {v : Value} {xs : List Value} (h : W.ownsRow base T size v n xs) (ha : Abv B W X) (hb : B ≤ base) : X.ownsRow base T size v n xs := by
  refine ⟨h.1, ?_⟩
  rcases h.2 with h | ⟨g, cap, cur, rfl, hg, hc, r⟩
  · exact .inl h
  · exact .inr ⟨g, cap, cur, rfl, hg, (ha.block g (by omega) (Array.getElem?_eq_some_iff.1 hc).1).trans hc, r⟩
theorem IRowsO.abv {B base k : Nat} {W X : World} {v : Value} {rl : Nat → Nat} {ct : Nat → Nat → Int} {vs : Nat → Value} (h : IRowsO base W v k rl ct vs) (ha : Abv B W X) (hb : B ≤ base) : IRowsO base X v k rl ct vs := ⟨own_abv h.1 ha hb, fun j hj => own_abv (h.2 j hj) ha hb⟩
/-- A truth whose lists are as long as Play needs. -/
structure PlayOk (t : Tb) (x : Tr) : Prop where
  ng1 : 1 ≤ t.ng
  ng4 : t.ng ≤ 7
  nb8 : t.nb ≤ 100
  nr : t.ng + 1 ≤ t.nr
  nf : x.nf = t.ng
  b : t.nb ≤ x.nb
  d : t.nb ≤ x.nd
  m : t.nb ≤ x.nm
  dl : ∀ c, c < t.nb → x.dl c = t.ng + 1
  ml : ∀ c, c < t.nb → x.ml c = t.ng
  xb : x.nb ≤ 100000
  xd : x.nd ≤ 100000
  xm : x.nm ≤ 100000
def IntsIn (w : World) (sv : Value) (n : Nat) (z : Nat → Int) : Prop :=
  (∃ a cap, sv = .slice a 0 cap ∧ n = 0) ∨ ∃ b off cap, sv = .slice (some ⟨b, off, none⟩) n cap ∧ b < w.heap.size ∧ ∀ j, j < n → w.cell? ⟨b, off + j, none⟩ = some (.int .i64 (z j))
def IRowsIn (w : World) (sv : Value) (n : Nat) (rl : Nat → Nat) (ct : Nat → Nat → Int) : Prop :=
  (∃ a cap, sv = .slice a 0 cap ∧ n = 0) ∨ ∃ b off cap, sv = .slice (some ⟨b, off, none⟩) n cap ∧ b < w.heap.size ∧ ∀ j, j < n → ∃ rv, w.cell? ⟨b, off + j, none⟩ = some rv ∧ IntsIn w rv (rl j) (ct j)
theorem IntsAt.toIn {w : World} {sv : Value} {n : Nat} {z : Nat → Int} (h : IntsAt w sv n z) : IntsIn w sv n z := by
  rcases h with ⟨h, h2⟩ | h
  · exact .inl ⟨_, _, h, h2⟩
  · exact .inr h
theorem IRows.toIn {w : World} {sv : Value} {n : Nat} {rl : Nat → Nat} {ct : Nat → Nat → Int} (h : IRows w sv n rl ct) : IRowsIn w sv n rl ct := by
  rcases h with ⟨h, h2⟩ | ⟨b, off, cap, h, hb, hz⟩
  · exact .inl ⟨_, _, h, h2⟩
  · exact .inr ⟨b, off, cap, h, hb, fun j hj => by obtain ⟨rv, h0, h1⟩ := hz j hj; exact ⟨rv, h0, h1.toIn⟩⟩
theorem IntsIn.below {w w' : World} {sv : Value} {n : Nat} {z : Nat → Int} (h : IntsIn w sv n z) (hB : Below w.heap.size w w') : IntsIn w' sv n z := by
  rcases h with h | ⟨b, off, cap, rfl, hb, hz⟩
  · exact .inl h
  · exact .inr ⟨b, off, cap, rfl, Nat.lt_of_lt_of_le hb hB.size, fun j hj => by rw [hB.cell (p := ⟨b, off + j, none⟩) hb]; exact hz j hj⟩
theorem IRowsIn.below {w w' : World} {sv : Value} {n : Nat} {rl : Nat → Nat} {ct : Nat → Nat → Int} (h : IRowsIn w sv n rl ct) (hB : Below w.heap.size w w') : IRowsIn w' sv n rl ct := by
  rcases h with h | ⟨b, off, cap, rfl, hb, hz⟩
  · exact .inl h
  · refine .inr ⟨b, off, cap, rfl, Nat.lt_of_lt_of_le hb hB.size, fun j hj => ?_⟩
    obtain ⟨rv, h0, h1⟩ := hz j hj
    exact ⟨rv, by rw [hB.cell (p := ⟨b, off + j, none⟩) hb]; exact h0, h1.below hB⟩
theorem IntsIn.slice {w : World} {sv : Value} {n : Nat} {z : Nat → Int} (h : IntsIn w sv n z) : ∃ a cap, sv = .slice a n cap := by
  rcases h with ⟨a, cap, rfl, rfl⟩ | ⟨b, off, cap, rfl, _⟩
  · exact ⟨_, _, rfl⟩
  · exact ⟨_, _, rfl⟩
theorem IRowsIn.slice {w : World} {sv : Value} {n : Nat} {rl : Nat → Nat} {ct : Nat → Nat → Int} (h : IRowsIn w sv n rl ct) : ∃ a cap, sv = .slice a n cap := by
  rcases h with ⟨a, cap, rfl, rfl⟩ | ⟨b, off, cap, rfl, _⟩
  · exact ⟨_, _, rfl⟩
  · exact ⟨_, _, rfl⟩
theorem IRowsIn.at {w : World} {a : Option Addr} {n cap : Nat} {rl : Nat → Nat} {ct : Nat → Nat → Int} (h : IRowsIn w (.slice a n cap) n rl ct) {k : Nat} (hk : k < n) : ∃ b off ra rc, a = some ⟨b, off, none⟩ ∧ b < w.heap.size ∧ w.cell? ⟨b, off + k, none⟩ = some (.slice ra (rl k) rc) ∧ IntsIn w (.slice ra (rl k) rc) (rl k) (ct k) := by
  rcases h with ⟨_, _, _, h⟩ | ⟨b, off, cap, h, hb, hz⟩
  · omega
  · cases h
    obtain ⟨rv, h0, h1⟩ := hz k hk
    obtain ⟨ra, rc, rfl⟩ := h1.slice
    exact ⟨b, off, ra, rc, rfl, hb, h0, h1⟩
theorem IntsIn.src {W : World} {a : Option Addr} {cap n : Nat} {z : Nat → Int} (h : IntsIn W (.slice a n cap) n z) : Src W a 1 n (iL z n) := by
  refine ⟨by rw [iL_length]; omega, fun j v hv => ?_⟩
  have hj : j < n := by have := (List.getElem?_eq_some_iff.1 hv).1; rw [iL_length] at this; exact this
  rw [iL_get z hj] at hv
  cases hv
  rcases h with ⟨_, _, _, h⟩ | ⟨b, off, cap, h, hb, hz⟩
  · omega
  · cases h
    exact ⟨_, rfl, by rw [addr_add]; exact hz j hj⟩
def XLi (W : World) (y : XV) (x : Tr) : Prop := IntsIn W (.slice y.fa x.nf y.fc) x.nf x.f ∧ IntsIn W (.slice y.ba x.nb y.bc) x.nb x.b ∧ IRowsIn W (.slice y.da x.nd y.dc) x.nd x.dl x.d ∧ IRowsIn W (.slice y.ma x.nm y.mc) x.nm x.ml x.m
theorem XLi.below {W W' : World} {y : XV} {x : Tr} (h : XLi W y x) (hB : Below W.heap.size W W') : XLi W' y x := ⟨h.1.below hB, h.2.1.below hB, h.2.2.1.below hB, h.2.2.2.below hB⟩
theorem XL.toIn {W : World} {y : XV} {x : Tr} (h : XL W y x) : XLi W y x := ⟨h.1.toIn, h.2.1.toIn, h.2.2.1.toIn, h.2.2.2.toIn⟩
theorem IntsIn.at {w : World} {a : Option Addr} {n cap : Nat} {z : Nat → Int} (h : IntsIn w (.slice a n cap) n z) {k : Nat} (hk : k < n) : ∃ b off, a = some ⟨b, off, none⟩ ∧ b < w.heap.size ∧ w.cell? ⟨b, off + k, none⟩ = some (.int .i64 (z k)) := by
  rcases h with ⟨_, _, _, h⟩ | ⟨b, off, cap, h, hb, hz⟩
  · omega
  · cases h
    exact ⟨b, off, rfl, hb, hz k hk⟩
theorem own_cap {W : World} {base size n c : Nat} {T : TypeId} {a : Option Addr} {xs : List Value} (h : W.ownsRow base T size (.slice a n c) n xs) : n ≤ c := by
  rcases h.2 with ⟨e, rfl⟩ | ⟨g, cap, cur, e, _, _, hn, _⟩
  · exact Nat.zero_le _
  · cases e; exact hn
set_option maxRecDepth 100000 in
set_option maxHeartbeats 4000000 in
theorem play_anyC (u : WV) (t : Tb) (y : XV) (x : Tr) (hs : t.small) (w : World) (hl : WLi w u t) (hx : XLi w y x) (hp : PlayOk t x) :
    Calls Try.prog 52 #[.agg #[u.cv t, u.bv t, u.rv t, u.nv t], .agg #[.slice y.fa x.nf y.fc, .slice y.ba x.nb y.bc, .slice y.da x.nd y.dc, .slice y.ma x.nm y.mc]] w fun e w' => ∃ v, e = .returned (.tuple #[v, .bool (canC t x t.nb)]) ∧ IRows w' v (t.nb + 1) (fun _ => t.ng) (siz t.ng x) ∧ Below w.heap.size w w' ∧ (∀ X, Abv w.heap.size w' X → IRows X v (t.nb + 1) (fun _ => t.ng) (siz t.ng x)) ∧ ∃ va vc, v = .slice va (t.nb + 1) vc ∧ t.nb + 1 ≤ vc := by
  have HG : Hid (∀ X, Below w.heap.size w X → Calls Try.prog 23 #[.agg #[u.cv t, u.bv t, u.rv t, u.nv t]] X fun e w' => e = .returned (.int .i64 (t.ng : Nat)) ∧ Below X.heap.size X w') := fun X hX => rgroups_any _ t X (hl.below hX).tb hs
  obtain ⟨i0, hi0, hz0, hz1, hz2⟩ := info_parts Try.infoRangeR
  obtain ⟨i1, hi1, hy0, hy1, hy2⟩ := info_parts Try.infoInt
  obtain ⟨i2, hi2, hx0, hx1, hx2⟩ := info_parts Try.infoInts
  have ng1 := hp.ng1; have ng4 := hp.ng4; have nb8 := hp.nb8
  have HP := Lib.hid hp; have HRB := Lib.hid hl.2.1; have HRR := Lib.hid hl.2.2.1
  have HXF := Lib.hid hx.1; have HXB := Lib.hid hx.2.1; have HXD := Lib.hid hx.2.2.1; have HXM := Lib.hid hx.2.2.2
  have hr5 := hs.2.2.2.1
  have hnf : x.nf ≤ 7 := by rw [hp.nf]; exact hp.ng4
  clear hs hl hx hp
  simp only [WV.cv, WV.bv, WV.rv, WV.nv] at HG HRB HRR ⊢
  have HA0 := Lib.hid (BF.made2 w #[.slice u.ca t.nc u.cc, .slice u.ba t.nb u.bc, .slice u.ra t.nr u.rc, .slice u.na t.nn u.nc] #[.slice y.fa x.nf y.fc, .slice y.ba x.nb y.bc, .slice y.da x.nd y.dc, .slice y.ma x.nm y.mc] 25 75)
  have wng : IntKind.i64.wrap ((t.ng : Int) - 1) = (t.ng : Int) - 1 := IntWalk.i64_in _ (by omega)
  go_enter Try.func52, Try.ntmps52
  have HX3 : Hid (BF w (((w.alloc (.cells #[.slice u.ca t.nc u.cc, .slice u.ba t.nb u.bc, .slice u.ra t.nr u.rc, .slice u.na t.nn u.nc] 25)).alloc (.cells #[.slice y.fa x.nf y.fc, .slice y.ba x.nb y.bc, .slice y.da x.nd y.dc, .slice y.ma x.nm y.mc] 75)).alloc (.cells #[] 3)) [(w.heap.size, #[.slice u.ca t.nc u.cc, .slice u.ba t.nb u.bc, .slice u.ra t.nr u.rc, .slice u.na t.nn u.nc], 25), (w.heap.size + 1, #[.slice y.fa x.nf y.fc, .slice y.ba x.nb y.bc, .slice y.da x.nd y.dc, .slice y.ma x.nm y.mc], 75)]) := HA0.out.below (below_alloc _ _)
  go_wp2_with (first | (at_builtin; refine wpList_append_src _ rfl (.tmp 15) (.tmp 17) 72 rfl (w.heap.size + 2) 3 i1 (.int .i64 0) 1 8 Try.underlying72 hi1 hy0 hy1 hy2 rfl (by decide) (.slice (some ⟨w.heap.size + 2, 0, none⟩) 0 0) 0 [] rfl ⟨rfl, .inr ⟨w.heap.size + 2, 0, #[], rfl, Nat.le_refl _, ?b0, Nat.le_refl _, by unfold maxLen; omega, rfl, rfl⟩⟩ y.fa x.nf y.fc (iL x.f x.nf) rfl ?a0 ?a4 ?a1 ?a2 ?a3 ?_))
  case b0 => have := heap_alloc_new ((w.alloc (.cells #[.slice u.ca t.nc u.cc, .slice u.ba t.nb u.bc, .slice u.ra t.nr u.rc, .slice u.na t.nn u.nc] 25)).alloc (.cells #[.slice y.fa x.nf y.fc, .slice y.ba x.nb y.bc, .slice y.da x.nd y.dc, .slice y.ma x.nm y.mc] 75)) (.cells #[] 3); simpa using this
  case a0 => exact (HXF.out.below HX3.out.fr).src
  case a4 => intro q hq; unfold iL at hq; simp only [List.mem_map] at hq; obtain ⟨j, _, rfl⟩ := hq; rfl
  case a1 => unfold maxLen; omega
  case a2 => omega
  case a3 => simp
  intro v1 w2 hown hgr hlt
  have HO2 : Hid (w2.ownsRow w.heap.size 3 1 v1 t.ng (iL (siz t.ng x 0) t.ng)) := by
    have h1 := own_mono hown (base' := w.heap.size) (by omega)
    rw [HP.out.nf] at h1
    exact h1
  have HA2 : Hid (BF w w2 [(w.heap.size, #[.slice u.ca t.nc u.cc, .slice u.ba t.nb u.bc, .slice u.ra t.nr u.rc, .slice u.na t.nn u.nc], 25), (w.heap.size + 1, #[.slice y.fa x.nf y.fc, .slice y.ba x.nb y.bc, .slice y.da x.nd y.dc, .slice y.ma x.nm y.mc], 75)]) := HX3.out.fro (Fr.grown hgr) (fun q hq e => by have := Option.some.inj e; simp only at this; omega) (List.forall_mem_cons.2 ⟨fun e => by have := Option.some.inj e; simp only at this; omega, List.forall_mem_cons.2 ⟨fun e => by have := Option.some.inj e; simp only at this; omega, List.forall_mem_nil _⟩⟩)
  clear hown hgr hlt HX3 HA0
  obtain ⟨v1a, v1c, rfl⟩ := own_slice' HO2.out
  have HA2' := Lib.hid (HA2.out.below (below_alloc w2 (.cells #[.slice v1a t.ng v1c] 72)))
  have c0 := HA2'.out.cell (.head _) 0
  have c1 := HA2'.out.cell (.head _) 1
  have c2 := HA2'.out.cell (.head _) 2
  have c3 := HA2'.out.cell (.head _) 3
  go_wp2_with (go_at_call 23; refine (HG.out _ HA2'.out.fr).mono ?_; rintro _ w3 ⟨rfl, hb3⟩)
  have HA3 : Hid (BF w w3 [(w.heap.size, #[.slice u.ca t.nc u.cc, .slice u.ba t.nb u.bc, .slice u.ra t.nr u.rc, .slice u.na t.nn u.nc], 25), (w.heap.size + 1, #[.slice y.fa x.nf y.fc, .slice y.ba x.nb y.bc, .slice y.da x.nd y.dc, .slice y.ma x.nm y.mc], 75)]) := (HA2.out.below (below_alloc _ _)).below hb3
  have HO3 : Hid (IRowsO w.heap.size w3 (.slice (some ⟨w2.heap.size, 0, none⟩) 1 1) 1 (fun _ => t.ng) (siz t.ng x) (fun _ => .slice v1a t.ng v1c)) := by
    refine ⟨⟨rfl, .inr ⟨w2.heap.size, 1, #[.slice v1a t.ng v1c], rfl, HA2.out.fr.size, (hb3.block _ (by simp)).trans (heap_alloc_new _ _), Nat.le_refl _, by unfold maxLen; omega, rfl, rfl⟩⟩, fun j hj => ?_⟩
    obtain rfl : j = 0 := by omega
    exact own_below (HO2.out.alloc _) hb3
  clear hb3 HO2 HA2 HA2' c0 c1 c2 c3
  generalize w2.heap.size = g2 at *
  clear w2
  go_loopw [6, 7, 9] (fun vo vb i wr => ∃ (c : Nat) (vs : Nat → Value), c ≤ t.nb ∧ i = .int .i64 c ∧ vb = .bool (canC t x c) ∧ BF w wr [(w.heap.size, #[.slice u.ca t.nc u.cc, .slice u.ba t.nb u.bc, .slice u.ra t.nr u.rc, .slice u.na t.nn u.nc], 25), (w.heap.size + 1, #[.slice y.fa x.nf y.fc, .slice y.ba x.nb y.bc, .slice y.da x.nd y.dc, .slice y.ma x.nm y.mc], 75)] ∧ IRowsO w.heap.size wr vo (c + 1) (fun _ => t.ng) (siz t.ng x) vs) (fun _ _ i _ => t.nb - (intOf i).toNat)
  case atStart => exact ⟨0, _, Nat.zero_le _, rfl, rfl, HA3.out, HO3.out⟩
  case round =>
    clear HA3 HO3
    obtain ⟨c, vs, hc, rfl, rfl, hbf, hro⟩ := hrel
    have HA := Lib.hid hbf; have HO := Lib.hid hro
    obtain ⟨oa, occ, rfl⟩ := own_slice' hro.1
    clear hbf hro
    have q1 := HA.out.cell (.head _) 1
    by_cases hlt : c < t.nb
    · obtain ⟨go, hgo⟩ : ∃ go, oa = some ⟨go, 0, none⟩ := by
        rcases HO.out.1.2 with ⟨_, h⟩ | ⟨g, cap, cur, e, _⟩
        · omega
        · cases e; exact ⟨g, rfl⟩
      subst hgo
      obtain ⟨g', o', ra, rc, eo, hgo, hx0, hrow⟩ := HO.out.rows.at (k := c) (by omega)
      obtain ⟨rfl, rfl⟩ : go = g' ∧ 0 = o' := by cases eo; exact ⟨rfl, rfl⟩
      rw [Nat.zero_add] at hx0
      obtain ⟨bb, ob, hba, hbb, hxb⟩ := HXB.out.at (k := c) (by have := HP.out.b; omega)
      have hxb' := kept HA.out.fr hbb hxb
      have HHBA := Lib.hid hba
      have HROW := Lib.hid hrow; have HBB := Lib.hid (And.intro hbb hxb)
      have HCK : Hid (∀ X, Below wr.heap.size wr X → X.cell? ⟨w.heap.size + 1, 1, none⟩ = some (.slice (some ⟨bb, ob, none⟩) x.nb y.bc) ∧ X.cell? ⟨bb, ob + c, none⟩ = some (.int .i64 (x.b c)) ∧ X.cell? ⟨go, c, none⟩ = some (.slice ra t.ng rc)) := fun X hX => ⟨by rw [← hba]; exact (HA.out.below hX).cell (.tail _ (.head _)) 1, kept ((HA.out.below hX).fr) hbb hxb, kept hX hgo hx0⟩
      have ki : (0 : Int) ≤ (c : Int) := by omega
      have kj : (c : Int) < (t.nb : Int) := by omega
      have kb : (c : Int) < (x.nb : Int) := by have := HP.out.b; omega
      have ko : (c : Int) < (c : Int) + 1 := by omega
      clear eo hrow hba hxb hx0 hxb'
      go_wp2_with fail
      have HAX : Hid (Below wr.heap.size wr wr.drew) := (Below.refl _ _).drew
      go_cut [10] (fun s10 wx => ∃ aa ac, s10 = .slice aa (t.ng + 1) ac ∧ Below wr.heap.size wr wx ∧ wx.ownsRow wr.heap.size 3 1 (.slice aa (t.ng + 1) ac) (t.ng + 1) (iL (allS (x.b c) (siz t.ng x c)) (t.ng + 1)))
      case first =>
        refine wp_region_held_drew (S := fun X => X.cell? ⟨w.heap.size + 1, 1, none⟩ = some (.slice (some ⟨bb, ob, none⟩) x.nb y.bc) ∧ X.cell? ⟨bb, ob + c, none⟩ = some (.int .i64 (x.b c)) ∧ X.cell? ⟨go, c, none⟩ = some (.slice ra t.ng rc)) (by kernel_rfl) (HCK.out _ HAX.out) (fun hS => ?_)
        generalize wr.drew = X at *
        refine tk [0, 1, 2, 3, 4, 6, 7, 8, 9] ?_
        repeat (refine tkH (oi := ⟨_, _, _, _, _, _⟩) (v := ?_) rfl (by kernel_rfl) (by rfl) (fun _ _ _ h => h) hS ?_ ?_; rotate_left; (· rintro W' ⟨z0, z1, z2⟩; go_simp; try with_reducible rfl); try simp only [Act.put, putA, putZ, putS])
        refine tk0 ?_
        refine wpAnyH_ready (rs := [5]) (by kernel_rfl) (by simp) ?_
        refine AllReadyH.cons (o := ⟨some 35, _, _, _, _, _⟩) rfl (fun K hK => ?_) AllReadyH.nil
        go_simp
        have HB1 : Hid (Below wr.heap.size wr (X.alloc (.cells #[.int .i64 (x.b c)] 3))) := below_step HAX.out (below_alloc _ _)
        have HJ : Hid ((X.alloc (.cells #[.int .i64 (x.b c)] 3)).heap[X.heap.size]? = some (.cells #[.int .i64 (x.b c)] 3 (0, 0))) := heap_alloc_new _ _
        have HJL : Hid (wr.heap.size ≤ X.heap.size) := HAX.out.size
        refine hK.out _ _ (HCK.out (X.alloc (.cells #[.int .i64 (x.b c)] 3)) HB1.out) (fun hS => ?_)
        clear hK K
        try simp only [Act.put, putA, putZ, putS]
        generalize X.heap.size = J at *
        generalize (X.alloc (.cells #[.int .i64 (x.b c)] 3)) = X1 at *
        refine wpAnyH_ready (rs := [10]) (by kernel_rfl) (by simp) ?_
        refine AllReadyH.cons (o := ⟨some 40, _, _, _, _, _⟩) rfl (fun K hK => ?_) AllReadyH.nil
        refine step_append_src X1 (by rfl) (.tmp 35) (.tmp 39) 72 (by rfl) wr.heap.size 3 i1 (.int .i64 0) 1 8 Try.underlying72 hi1 hy0 hy1 hy2 rfl (by decide) (.slice (some ⟨J, 0, none⟩) 1 1) 1 [.int .i64 (x.b c)] (by rfl) ⟨rfl, .inr ⟨J, 1, #[.int .i64 (x.b c)], rfl, HJL.out, HJ.out, Nat.le_refl _, by unfold maxLen; omega, rfl, rfl⟩⟩ ra t.ng rc (iL (siz t.ng x c) t.ng) (by rfl) ((HROW.out.below HB1.out).src) (by intro q hq; unfold iL at hq; simp only [List.mem_map] at hq; obtain ⟨j, _, rfl⟩ := hq; rfl) (by unfold maxLen; omega) (by omega) HB1.out.size ?_
        intro v1 Y hown hgr hlt1
        rw [iL_cons, Nat.add_comm 1 t.ng] at hown
        obtain ⟨aa, ac, rfl⟩ := own_slice' hown
        have HBY : Hid (Below wr.heap.size wr Y) := HB1.out.trans ((Fr.grown hgr).low HB1.out.size (fun q hq e => by have := Option.some.inj e; simp only at this; have := HJL.out; omega))
        have HOY := Lib.hid hown
        clear hown hgr hlt1
        refine hK.out _ _ (HCK.out Y HBY.out) (fun hS => ?_)
        clear hK K
        try simp only [Act.put, putA, putZ, putS]
        refine tH 11 (oi := ⟨_, _, _, _, _, _⟩) (v := ?_) rfl (by kernel_rfl) (by rfl) (fun _ _ _ h => h) hS ?_ ?_
        rotate_left
        · rintro W' ⟨z0, z1, z2⟩; go_simp; try with_reducible rfl
        try simp only [Act.put, putA, putZ, putS]
        refine wpAnyH_done (by kernel_rfl) ?_ _
        go_wp2_with fail
        go_meet
        exact ⟨aa, ac, rfl, HBY.out, HOY.out⟩
      case rest =>
        obtain ⟨aa, ac, rfl, hbw, how⟩ := hcut
        have HA1 := Lib.hid (HA.out.below hbw); have HO1 := Lib.hid (HO.out.below hbw); have HW1 := Lib.hid how; have HBW := Lib.hid hbw
        clear HA HO HCK HAX HROW hbw how q1 HBB hgo HHBA hbb
        obtain ⟨ab, hab⟩ : ∃ ab, aa = some ⟨ab, 0, none⟩ := by
          rcases HW1.out.2 with ⟨_, h⟩ | ⟨g, cap, cur, e, _⟩
          · omega
          · cases e; exact ⟨g, rfl⟩
        subst hab
        have d0 := HA1.out.cell (.head _) 0
        have d1 := HA1.out.cell (.head _) 1
        have d2 := HA1.out.cell (.head _) 2
        have d3 := HA1.out.cell (.head _) 3
        go_wp2_with (first | (go_at_call 23; refine (HG.out _ HA1.out.fr).mono ?_; rintro _ wR ⟨rfl, hbR⟩; have HBR := Lib.hid hbR; clear hbR) | (at_make; refine wpList_make_full _ rfl (.tmp 42) (.tmp 42) 72 rfl wR.heap.size 3 i1 (.int .i64 0) 1 Try.underlying72 hi1 hy0 hy1 .i64 .i64 (t.ng : Int) (t.ng : Int) t.ng rfl rfl rfl rfl (by rw [hy2]; omega) (by unfold maxLen; omega) (Nat.le_refl _) ?_))
        intro w2 hob hg2
        have HAR := Lib.hid (HA1.out.below HBR.out); have HOR := Lib.hid (HO1.out.below HBR.out); have HWR := Lib.hid (own_below HW1.out HBR.out)
        clear HA1 HO1 HW1 HBW HBR d0 d1 d2 d3
        obtain ⟨A, HAE⟩ : ∃ A, Hid (allS (x.b c) (siz t.ng x c) = A) := ⟨_, rfl⟩
        obtain ⟨cb, HCB⟩ : ∃ cb, Hid (canC t x c = cb) := ⟨_, rfl⟩
        rw [HAE.out] at HWR
        rw [HCB.out]
        have HR0 : Hid (w2.ownsRow wR.heap.size 3 1 (.slice (some ⟨wR.heap.size, 0, none⟩) t.ng t.ng) t.ng (iL (addP (t.ng - 1) A (x.d c) 0) t.ng)) := by
          have h := hob
          rw [toList_madeCells_one] at h
          have e : iL (addP (t.ng - 1) A (x.d c) 0) t.ng = List.replicate t.ng (.int .i64 0) := by
            unfold iL addP
            rw [List.map_const']; simp
          unfold Hid; rw [e]; exact h
        have HB2 : Hid (Below wR.heap.size wR w2) := (Fr.grown hg2).low (Nat.le_refl _) (fun k _ e => by cases e)
        clear hob hg2
        go_wp2_with fail
        go_loopw [7, 12, 13] (fun vb i vd wx => ∃ k : Nat, k ≤ t.ng + 1 ∧ i = .int .i64 k ∧ vb = .bool (canD t.r A (x.d c) k cb) ∧ Below wR.heap.size wR wx ∧ wx.ownsRow wR.heap.size 3 1 (.slice (some ⟨wR.heap.size, 0, none⟩) t.ng t.ng) t.ng (iL (addP (t.ng - 1) A (x.d c) k) t.ng)) (fun _ i _ _ => t.ng + 1 - (intOf i).toNat)
        case atStart => exact ⟨0, Nat.zero_le _, rfl, rfl, HB2.out, HR0.out⟩
        case round =>
          clear HB2 HR0
          obtain ⟨k, hk, rfl, rfl, hbx, hrx⟩ := hrel
          rename World => wx
          have HB2 := Lib.hid hbx; have HR0 := Lib.hid hrx
          clear hbx hrx
          have ki' : (0 : Int) ≤ (k : Int) := by omega
          by_cases hlk : k < t.ng + 1
          · have kj' : (k : Int) < ((t.ng + 1 : Nat) : Int) := by omega
            have hkr : k < t.nr := by have := HP.out.nr; omega
            obtain ⟨br, or', hra, hbr, x0, x1⟩ := HRR.out.at hkr
            have kr : (k : Int) < (t.nr : Int) := by omega
            have HCR : Hid (∀ X, Below wR.heap.size wR X → X.cell? ⟨ab, k, none⟩ = some (.int .i64 (A k)) ∧ X.cell? ⟨w.heap.size, 2, none⟩ = some (.slice (some ⟨br, or', none⟩) t.nr u.rc) ∧ X.cell? ⟨br, or' + k * 2, none⟩ = some (.int .i64 (t.r k).1) ∧ X.cell? ⟨br, or' + k * 2 + 1, none⟩ = some (.int .i64 (t.r k).2)) := fun X hX => ⟨((own_below HWR.out hX).cellAt k (by omega)).trans (iL_get _ hlk), by rw [← hra]; exact (HAR.out.below hX).cell (.head _) 2, kept (HAR.out.below hX).fr hbr x0, kept (HAR.out.below hX).fr hbr x1⟩
            obtain ⟨bd, od, rd, rdc, hda, hbd, hxd, hrd⟩ := HXD.out.at (k := c) (by have := HP.out.d; omega)
            obtain ⟨bq, oq, rfl, hbq, hxq⟩ := hrd.at (k := k) (by rw [HP.out.dl c hlt]; exact hlk)
            have kdl : (k : Int) < (x.dl c : Int) := by rw [HP.out.dl c hlt]; exact kj'
            have kcd : (c : Int) < (x.nd : Int) := by have := HP.out.d; omega
            have HCM : Hid (∀ X, Below wR.heap.size wR X → X.cell? ⟨ab, k, none⟩ = some (.int .i64 (A k)) ∧ X.cell? ⟨w.heap.size + 1, 2, none⟩ = some (.slice (some ⟨bd, od, none⟩) x.nd y.dc) ∧ X.cell? ⟨bd, od + c, none⟩ = some (.slice (some ⟨bq, oq, none⟩) (x.dl c) rdc) ∧ X.cell? ⟨bq, oq + k, none⟩ = some (.int .i64 (x.d c k))) := fun X hX => ⟨((own_below HWR.out hX).cellAt k (by omega)).trans (iL_get _ hlk), by rw [← hda]; exact (HAR.out.below hX).cell (.tail _ (.head _)) 2, kept (HAR.out.below hX).fr hbd hxd, kept (HAR.out.below hX).fr hbq hxq⟩
            clear hra hbr x0 x1 hda hbd hxd hrd hbq hxq
            obtain ⟨bv, HBV⟩ : ∃ bv, Hid (canD t.r A (x.d c) k cb = bv) := ⟨_, rfl⟩
            obtain ⟨e1, e2, HDE⟩ : ∃ e1 e2, Hid (deadW (t.r k) (A k) = (e1, e2)) := ⟨_, _, rfl⟩
            rw [HBV.out]
            go_wp2_with fail
            go_cut [13] (fun s13 wy => ∃ DB, s13 = .pointer (some ⟨DB, 0, none⟩) ∧ wx.heap.size ≤ DB ∧ wy.heap[DB]? = some (.cells #[.int .i64 e1, .int .i64 e2] 43 (0, 0)) ∧ Below wx.heap.size wx wy)
            case first =>
              have HAX : Hid (Below wx.heap.size wx wx.drew) := (Below.refl _ _).drew
              refine wp_region_Z (S := fun X => X.cell? ⟨ab, k, none⟩ = some (.int .i64 (A k)) ∧ X.cell? ⟨w.heap.size, 2, none⟩ = some (.slice (some ⟨br, or', none⟩) t.nr u.rc) ∧ X.cell? ⟨br, or' + k * 2, none⟩ = some (.int .i64 (t.r k).1) ∧ X.cell? ⟨br, or' + k * 2 + 1, none⟩ = some (.int .i64 (t.r k).2)) (by kernel_rfl) (HCR.out _ (below_step HB2.out HAX.out)) (fun hS => ?_)
              generalize wx.drew = X at *
              refine tk [0, 1, 2, 3, 4, 5, 6, 7, 8] ?_
              repeat (refine tkZ (oi := ⟨_, _, _, _, _, _⟩) (v := ?_) rfl (by kernel_rfl) (by rfl) (fun _ _ _ h => h) hS ?_ ?_; rotate_left; (· rintro W' ⟨z0, z1, z2, z3⟩; go_simp; try with_reducible rfl); try simp only [Act.put, putA, putZ, putS])
              refine tk0 ?_
              refine wpAnyZ_next (rs := [9, 10]) (by kernel_rfl) (by simp) ?_
              refine NextZ.cons (o := ⟨some 59, _, _, _, _, _⟩) rfl (fun K hK => ?_) ?_
              ·
                go_simp
                refine (rDeadW_any (A k) (t.r k).1 (t.r k).2 X).mono ?_
                rw [show deadW ((t.r k).1, (t.r k).2) (A k) = (e1, e2) from HDE.out]
                rintro _ X0 ⟨rfl, hb0⟩
                (try go_wp2_with fail)
                have HA0 : Hid (Below wx.heap.size wx X0) := below_step HAX.out hb0
                refine hK.out _ _ (HCR.out X0 (below_step HB2.out HA0.out)) (fun hS => ?_)
                clear hK K
                try simp only [Act.put, putA, putZ, putS]
                clear hb0
                refine wpAnyZ_next (rs := [10]) (by kernel_rfl) (by simp) ?_
                refine NextZ.cons (o := ⟨some 13, _, _, _, _, _⟩) rfl (fun K hK => ?_) NextZ.nil
                go_simp
                have HA1 : Hid (Below wx.heap.size wx (X0.alloc (.cells #[.int .i64 0, .int .i64 0] 43))) := below_step HA0.out (below_alloc _ _)
                have HD1 : Hid ((X0.alloc (.cells #[.int .i64 0, .int .i64 0] 43)).heap[X0.heap.size]? = some (.cells #[.int .i64 0, .int .i64 0] 43 (0, 0))) := heap_alloc_new _ _
                have HDL : Hid (wx.heap.size ≤ X0.heap.size) := HA0.out.size
                refine hK.out _ _ (HCR.out (X0.alloc (.cells #[.int .i64 0, .int .i64 0] 43)) (below_step HB2.out HA1.out)) (fun hS => ?_)
                clear hK K
                try simp only [Act.put, putA, putZ, putS]
                generalize X0.heap.size = DB at *
                generalize (X0.alloc (.cells #[.int .i64 0, .int .i64 0] 43)) = X1 at *
                refine wpAnyZ_next (rs := [11]) (by kernel_rfl) (by simp) ?_
                refine NextZ.last (o := ⟨none, _, _, _, _, _⟩) rfl (by kernel_rfl) (fun K hK => ?_)
                have c0 := cell_of_row _ _ 0 _ _ _ HD1.out
                have c1 := cell_of_row _ _ 1 _ _ _ HD1.out
                have f0 := frozen_of_row _ _ 0 _ _ HD1.out
                have f1 := frozen_of_row _ _ 1 _ _ HD1.out
                have HDN : Hid (((X1.setCell ⟨DB, 0, none⟩ (.int .i64 e1)).setCell ⟨DB, 1, none⟩ (.int .i64 e2)).heap[DB]? = some (.cells #[.int .i64 e1, .int .i64 e2] 43 (0, 0))) := (set2 HD1.out _ _).1
                have HBN : Hid (Below wx.heap.size wx ((X1.setCell ⟨DB, 0, none⟩ (.int .i64 e1)).setCell ⟨DB, 1, none⟩ (.int .i64 e2))) := HA1.out.trans ((set2 HD1.out _ _).2.low HA1.out.size (fun q hq e => by have := HDL.out; omega))
                go_simp
                refine hK.out _ _ ?_
                clear hK K c0 c1 f0 f1
                (try simp only [Act.put])
                refine wpAnyZ_done (by kernel_rfl) ?_ _
                go_wp2_with fail
                go_meet
                exact ⟨DB, rfl, HDL.out, HDN.out, HBN.out⟩
              refine NextZ.cons (o := ⟨some 13, _, _, _, _, _⟩) rfl (fun K hK => ?_) NextZ.nil
              go_simp
              have HA3 : Hid (Below wx.heap.size wx (X.alloc (.cells #[.int .i64 0, .int .i64 0] 43))) := below_step HAX.out (below_alloc _ _)
              have HD3 : Hid ((X.alloc (.cells #[.int .i64 0, .int .i64 0] 43)).heap[X.heap.size]? = some (.cells #[.int .i64 0, .int .i64 0] 43 (0, 0))) := heap_alloc_new _ _
              have HDL : Hid (wx.heap.size ≤ X.heap.size) := HAX.out.size
              refine hK.out _ _ (HCR.out (X.alloc (.cells #[.int .i64 0, .int .i64 0] 43)) (below_step HB2.out HA3.out)) (fun hS => ?_)
              clear hK K
              try simp only [Act.put, putA, putZ, putS]
              generalize X.heap.size = DB at *
              generalize (X.alloc (.cells #[.int .i64 0, .int .i64 0] 43)) = X3 at *
              refine wpAnyZ_next (rs := [9]) (by kernel_rfl) (by simp) ?_
              refine NextZ.cons (o := ⟨some 59, _, _, _, _, _⟩) rfl (fun K hK => ?_) NextZ.nil
              go_simp
              refine (rDeadW_any (A k) (t.r k).1 (t.r k).2 X3).mono ?_
              rw [show deadW ((t.r k).1, (t.r k).2) (A k) = (e1, e2) from HDE.out]
              rintro _ X4 ⟨rfl, hb4⟩
              (try go_wp2_with fail)
              have HA4 : Hid (Below wx.heap.size wx X4) := below_step HA3.out hb4
              have HD4 : Hid (X4.heap[DB]? = some (.cells #[.int .i64 0, .int .i64 0] 43 (0, 0))) := (hb4.block _ (Array.getElem?_eq_some_iff.1 HD3.out).1).trans HD3.out
              refine hK.out _ _ (HCR.out X4 (below_step HB2.out HA4.out)) (fun hS => ?_)
              clear hK K
              try simp only [Act.put, putA, putZ, putS]
              clear hb4
              refine wpAnyZ_next (rs := [11]) (by kernel_rfl) (by simp) ?_
              refine NextZ.last (o := ⟨none, _, _, _, _, _⟩) rfl (by kernel_rfl) (fun K hK => ?_)
              have c0 := cell_of_row _ _ 0 _ _ _ HD4.out
              have c1 := cell_of_row _ _ 1 _ _ _ HD4.out
              have f0 := frozen_of_row _ _ 0 _ _ HD4.out
              have f1 := frozen_of_row _ _ 1 _ _ HD4.out
              have HDN : Hid (((X4.setCell ⟨DB, 0, none⟩ (.int .i64 e1)).setCell ⟨DB, 1, none⟩ (.int .i64 e2)).heap[DB]? = some (.cells #[.int .i64 e1, .int .i64 e2] 43 (0, 0))) := (set2 HD4.out _ _).1
              have HBN : Hid (Below wx.heap.size wx ((X4.setCell ⟨DB, 0, none⟩ (.int .i64 e1)).setCell ⟨DB, 1, none⟩ (.int .i64 e2))) := HA4.out.trans ((set2 HD4.out _ _).2.low HA4.out.size (fun q hq e => by have := HDL.out; omega))
              go_simp
              refine hK.out _ _ ?_
              clear hK K c0 c1 f0 f1
              (try simp only [Act.put])
              refine wpAnyZ_done (by kernel_rfl) ?_ _
              go_wp2_with fail
              go_meet
              exact ⟨DB, rfl, HDL.out, HDN.out, HBN.out⟩
            case rest =>
              obtain ⟨DB, rfl, hDB, hDB2, hby⟩ := hcut
              rename World => wy
              have HDB := Lib.hid hDB2; have HBY := Lib.hid (below_step HB2.out hby); have HRY := Lib.hid (own_below HR0.out hby)
              have HDL : Hid (wR.heap.size ≤ DB) := Nat.le_trans HB2.out.size hDB
              clear hDB hDB2 hby HB2 HR0 HCR
              have HCX : Hid (∀ X, Below wy.heap.size wy X → X.cell? ⟨ab, k, none⟩ = some (.int .i64 (A k)) ∧ X.cell? ⟨w.heap.size + 1, 2, none⟩ = some (.slice (some ⟨bd, od, none⟩) x.nd y.dc) ∧ X.cell? ⟨bd, od + c, none⟩ = some (.slice (some ⟨bq, oq, none⟩) (x.dl c) rdc) ∧ X.cell? ⟨bq, oq + k, none⟩ = some (.int .i64 (x.d c k)) ∧ X.cell? ⟨DB, 0, none⟩ = some (.int .i64 e1) ∧ X.cell? ⟨DB, 1, none⟩ = some (.int .i64 e2)) := fun X hX => by
                obtain ⟨z0, z1, z2, z3⟩ := HCM.out X (below_step HBY.out hX)
                have hD := (hX.block DB (Array.getElem?_eq_some_iff.1 HDB.out).1).trans HDB.out
                exact ⟨z0, z1, z2, z3, cell_of_row _ _ 0 _ _ _ hD, cell_of_row _ _ 1 _ _ _ hD⟩
              go_wp2_with fail
              go_cut [7] (fun s7 wz => s7 = .bool (canD t.r A (x.d c) (k + 1) cb) ∧ Below wy.heap.size wy wz)
              case first =>
                have HAX : Hid (Below wy.heap.size wy wy.drew) := (Below.refl _ _).drew
                refine wp_region_held_drew (S := fun X => X.cell? ⟨ab, k, none⟩ = some (.int .i64 (A k)) ∧ X.cell? ⟨w.heap.size + 1, 2, none⟩ = some (.slice (some ⟨bd, od, none⟩) x.nd y.dc) ∧ X.cell? ⟨bd, od + c, none⟩ = some (.slice (some ⟨bq, oq, none⟩) (x.dl c) rdc) ∧ X.cell? ⟨bq, oq + k, none⟩ = some (.int .i64 (x.d c k)) ∧ X.cell? ⟨DB, 0, none⟩ = some (.int .i64 e1) ∧ X.cell? ⟨DB, 1, none⟩ = some (.int .i64 e2)) (by kernel_rfl) (HCX.out _ HAX.out) (fun hS => ?_)
                generalize wy.drew = X at *
                cases bv
                ·
                  refine tk [0, 1] ?_
                  repeat (refine tkH (oi := ⟨_, _, _, _, _, _⟩) (v := ?_) rfl (by kernel_rfl) (by rfl) (fun _ _ _ h => h) hS ?_ ?_; rotate_left; (· rintro W' ⟨z0, z1, z2, z3, z4, z5⟩; go_simp; try with_reducible rfl); try simp only [Act.put, putA, putZ, putS])
                  refine tk0 ?_
                  refine wpAnyH_take (i := 2) (oi := ⟨some 62, _, _, _, _, _⟩) (v := undef) rfl (by kernel_rfl) (by kernel_rfl) (by kernel_rfl) (fun _ _ _ h => h) (Or.inr ⟨by rfl, rfl⟩) hS ?_
                  try simp only [Act.put, putA, putZ, putS]
                  refine wpAnyH_take (i := 3) (oi := ⟨some 63, _, _, _, _, _⟩) (v := undef) rfl (by kernel_rfl) (by kernel_rfl) (by kernel_rfl) (fun _ _ _ h => h) (Or.inr ⟨by rfl, rfl⟩) hS ?_
                  try simp only [Act.put, putA, putZ, putS]
                  refine wpAnyH_take (i := 4) (oi := ⟨some 64, _, _, _, _, _⟩) (v := undef) rfl (by kernel_rfl) (by kernel_rfl) (by kernel_rfl) (fun _ _ _ h => h) (Or.inr ⟨by rfl, rfl⟩) hS ?_
                  try simp only [Act.put, putA, putZ, putS]
                  refine wpAnyH_take (i := 5) (oi := ⟨some 65, _, _, _, _, _⟩) (v := undef) rfl (by kernel_rfl) (by kernel_rfl) (by kernel_rfl) (fun _ _ _ h => h) (Or.inr ⟨by rfl, rfl⟩) hS ?_
                  try simp only [Act.put, putA, putZ, putS]
                  refine wpAnyH_take (i := 6) (oi := ⟨some 66, _, _, _, _, _⟩) (v := undef) rfl (by kernel_rfl) (by kernel_rfl) (by kernel_rfl) (fun _ _ _ h => h) (Or.inr ⟨by rfl, rfl⟩) hS ?_
                  try simp only [Act.put, putA, putZ, putS]
                  refine tk [7, 8] ?_
                  repeat (refine tkH (oi := ⟨_, _, _, _, _, _⟩) (v := ?_) rfl (by kernel_rfl) (by rfl) (fun _ _ _ h => h) hS ?_ ?_; rotate_left; (· rintro W' ⟨z0, z1, z2, z3, z4, z5⟩; go_simp; try with_reducible rfl); try simp only [Act.put, putA, putZ, putS])
                  refine tk0 ?_
                  refine wpAnyH_take (i := 9) (oi := ⟨some 69, _, _, _, _, _⟩) (v := undef) rfl (by kernel_rfl) (by kernel_rfl) (by kernel_rfl) (fun _ _ _ h => h) (Or.inr ⟨by rfl, rfl⟩) hS ?_
                  try simp only [Act.put, putA, putZ, putS]
                  refine wpAnyH_take (i := 10) (oi := ⟨some 70, _, _, _, _, _⟩) (v := undef) rfl (by kernel_rfl) (by kernel_rfl) (by kernel_rfl) (fun _ _ _ h => h) (Or.inr ⟨by rfl, rfl⟩) hS ?_
                  try simp only [Act.put, putA, putZ, putS]
                  refine wpAnyH_take (i := 11) (oi := ⟨some 71, _, _, _, _, _⟩) (v := undef) rfl (by kernel_rfl) (by kernel_rfl) (by kernel_rfl) (fun _ _ _ h => h) (Or.inr ⟨by rfl, rfl⟩) hS ?_
                  try simp only [Act.put, putA, putZ, putS]
                  refine wpAnyH_take (i := 12) (oi := ⟨some 72, _, _, _, _, _⟩) (v := undef) rfl (by kernel_rfl) (by kernel_rfl) (by kernel_rfl) (fun _ _ _ h => h) (Or.inr ⟨by rfl, rfl⟩) hS ?_
                  try simp only [Act.put, putA, putZ, putS]
                  refine wpAnyH_take (i := 13) (oi := ⟨some 73, _, _, _, _, _⟩) (v := undef) rfl (by kernel_rfl) (by kernel_rfl) (by kernel_rfl) (fun _ _ _ h => h) (Or.inr ⟨by rfl, rfl⟩) hS ?_
                  try simp only [Act.put, putA, putZ, putS]
                  refine wpAnyH_take (i := 14) (oi := ⟨some 74, _, _, _, _, _⟩) (v := undef) rfl (by kernel_rfl) (by kernel_rfl) (by kernel_rfl) (fun _ _ _ h => h) (Or.inr ⟨by rfl, rfl⟩) hS ?_
                  try simp only [Act.put, putA, putZ, putS]
                  refine wpAnyH_take (i := 15) (oi := ⟨some 75, _, _, _, _, _⟩) (v := undef) rfl (by kernel_rfl) (by kernel_rfl) (by kernel_rfl) (fun _ _ _ h => h) (Or.inr ⟨by rfl, rfl⟩) hS ?_
                  try simp only [Act.put, putA, putZ, putS]
                  refine wpAnyH_take (i := 16) (oi := ⟨some 76, _, _, _, _, _⟩) (v := undef) rfl (by kernel_rfl) (by kernel_rfl) (by kernel_rfl) (fun _ _ _ h => h) (Or.inr ⟨by rfl, rfl⟩) hS ?_
                  try simp only [Act.put, putA, putZ, putS]
                  refine wpAnyH_take (i := 17) (oi := ⟨some 77, _, _, _, _, _⟩) (v := undef) rfl (by kernel_rfl) (by kernel_rfl) (by kernel_rfl) (fun _ _ _ h => h) (Or.inr ⟨by rfl, rfl⟩) hS ?_
                  try simp only [Act.put, putA, putZ, putS]
                  refine wpAnyH_take (i := 18) (oi := ⟨some 78, _, _, _, _, _⟩) (v := undef) rfl (by kernel_rfl) (by kernel_rfl) (by kernel_rfl) (fun _ _ _ h => h) (Or.inr ⟨by rfl, rfl⟩) hS ?_
                  try simp only [Act.put, putA, putZ, putS]
                  refine wpAnyH_take (i := 19) (oi := ⟨some 79, _, _, _, _, _⟩) (v := undef) rfl (by kernel_rfl) (by kernel_rfl) (by kernel_rfl) (fun _ _ _ h => h) (Or.inr ⟨by rfl, rfl⟩) hS ?_
                  try simp only [Act.put, putA, putZ, putS]
                  refine wpAnyH_take (i := 20) (oi := ⟨some 80, _, _, _, _, _⟩) (v := undef) rfl (by kernel_rfl) (by kernel_rfl) (by kernel_rfl) (fun _ _ _ h => h) (Or.inr ⟨by rfl, rfl⟩) hS ?_
                  try simp only [Act.put, putA, putZ, putS]
                  refine wpAnyH_take (i := 21) (oi := ⟨some 81, _, _, _, _, _⟩) (v := undef) rfl (by kernel_rfl) (by kernel_rfl) (by kernel_rfl) (fun _ _ _ h => h) (Or.inr ⟨by rfl, rfl⟩) hS ?_
                  try simp only [Act.put, putA, putZ, putS]
                  refine tk [22, 23] ?_
                  repeat (refine tkH (oi := ⟨_, _, _, _, _, _⟩) (v := ?_) rfl (by kernel_rfl) (by rfl) (fun _ _ _ h => h) hS ?_ ?_; rotate_left; (· rintro W' ⟨z0, z1, z2, z3, z4, z5⟩; go_simp; try with_reducible rfl); try simp only [Act.put, putA, putZ, putS])
                  refine tk0 ?_
                  refine wpAnyH_done (by kernel_rfl) ?_ _
                  go_wp2_with fail
                  go_meet
                  exact ⟨by rw [canD, HBV.out]; rfl, HAX.out⟩
                · by_cases hneg : 0 ≤ A k
                  ·
                    refine tk [0, 1, 2, 3, 4, 5] ?_
                    repeat (refine tkH (oi := ⟨_, _, _, _, _, _⟩) (v := ?_) rfl (by kernel_rfl) (by rfl) (fun _ _ _ h => h) hS ?_ ?_; rotate_left; (· rintro W' ⟨z0, z1, z2, z3, z4, z5⟩; go_simp; try with_reducible rfl); try simp only [Act.put, putA, putZ, putS])
                    refine tk0 ?_
                    refine tH 6 (oi := ⟨_, _, _, _, _, _⟩) (v := .bool true) rfl (by kernel_rfl) (by rfl) (fun _ _ _ h => h) hS ?_ ?_
                    · rintro W' ⟨z0, z1, z2, z3, z4, z5⟩; go_simp; (try omega)
                    try simp only [Act.put, putA, putZ, putS]
                    refine tk [7, 8, 9, 10, 11, 12, 13, 14, 15, 16, 17, 18, 19, 20] ?_
                    repeat (refine tkH (oi := ⟨_, _, _, _, _, _⟩) (v := ?_) rfl (by kernel_rfl) (by rfl) (fun _ _ _ h => h) hS ?_ ?_; rotate_left; (· rintro W' ⟨z0, z1, z2, z3, z4, z5⟩; go_simp; try with_reducible rfl); try simp only [Act.put, putA, putZ, putS])
                    refine tk0 ?_
                    refine wpAnyH_ready (rs := [21]) (by kernel_rfl) (by simp) ?_
                    refine AllReadyH.cons (o := ⟨some 81, _, _, _, _, _⟩) rfl (fun K hK => ?_) AllReadyH.nil
                    go_simp
                    refine (rIn_any _ _ _ _).mono ?_
                    rintro _ X0 ⟨rfl, rfl⟩
                    (try go_wp2_with fail)
                    refine hK.out _ _ (HCX.out X HAX.out) (fun hS => ?_)
                    clear hK K
                    try simp only [Act.put, putA, putZ, putS]
                    refine tk [22, 23] ?_
                    repeat (refine tkH (oi := ⟨_, _, _, _, _, _⟩) (v := ?_) rfl (by kernel_rfl) (by rfl) (fun _ _ _ h => h) hS ?_ ?_; rotate_left; (· rintro W' ⟨z0, z1, z2, z3, z4, z5⟩; go_simp; try with_reducible rfl); try simp only [Act.put, putA, putZ, putS])
                    refine tk0 ?_
                    refine wpAnyH_done (by kernel_rfl) ?_ _
                    go_wp2_with fail
                    go_meet
                    exact ⟨by rw [canD, HBV.out, HDE.out, decide_eq_true hneg]; rfl, HAX.out⟩
                  ·
                    refine tk [0, 1, 2, 3, 4, 5] ?_
                    repeat (refine tkH (oi := ⟨_, _, _, _, _, _⟩) (v := ?_) rfl (by kernel_rfl) (by rfl) (fun _ _ _ h => h) hS ?_ ?_; rotate_left; (· rintro W' ⟨z0, z1, z2, z3, z4, z5⟩; go_simp; try with_reducible rfl); try simp only [Act.put, putA, putZ, putS])
                    refine tk0 ?_
                    refine tH 6 (oi := ⟨_, _, _, _, _, _⟩) (v := .bool false) rfl (by kernel_rfl) (by rfl) (fun _ _ _ h => h) hS ?_ ?_
                    · rintro W' ⟨z0, z1, z2, z3, z4, z5⟩; go_simp; (try omega)
                    try simp only [Act.put, putA, putZ, putS]
                    refine tk [7, 8] ?_
                    repeat (refine tkH (oi := ⟨_, _, _, _, _, _⟩) (v := ?_) rfl (by kernel_rfl) (by rfl) (fun _ _ _ h => h) hS ?_ ?_; rotate_left; (· rintro W' ⟨z0, z1, z2, z3, z4, z5⟩; go_simp; try with_reducible rfl); try simp only [Act.put, putA, putZ, putS])
                    refine tk0 ?_
                    refine wpAnyH_take (i := 9) (oi := ⟨some 69, _, _, _, _, _⟩) (v := undef) rfl (by kernel_rfl) (by kernel_rfl) (by kernel_rfl) (fun _ _ _ h => h) (Or.inr ⟨by rfl, rfl⟩) hS ?_
                    try simp only [Act.put, putA, putZ, putS]
                    refine wpAnyH_take (i := 10) (oi := ⟨some 70, _, _, _, _, _⟩) (v := undef) rfl (by kernel_rfl) (by kernel_rfl) (by kernel_rfl) (fun _ _ _ h => h) (Or.inr ⟨by rfl, rfl⟩) hS ?_
                    try simp only [Act.put, putA, putZ, putS]
                    refine wpAnyH_take (i := 11) (oi := ⟨some 71, _, _, _, _, _⟩) (v := undef) rfl (by kernel_rfl) (by kernel_rfl) (by kernel_rfl) (fun _ _ _ h => h) (Or.inr ⟨by rfl, rfl⟩) hS ?_
                    try simp only [Act.put, putA, putZ, putS]
                    refine wpAnyH_take (i := 12) (oi := ⟨some 72, _, _, _, _, _⟩) (v := undef) rfl (by kernel_rfl) (by kernel_rfl) (by kernel_rfl) (fun _ _ _ h => h) (Or.inr ⟨by rfl, rfl⟩) hS ?_
                    try simp only [Act.put, putA, putZ, putS]
                    refine wpAnyH_take (i := 13) (oi := ⟨some 73, _, _, _, _, _⟩) (v := undef) rfl (by kernel_rfl) (by kernel_rfl) (by kernel_rfl) (fun _ _ _ h => h) (Or.inr ⟨by rfl, rfl⟩) hS ?_
                    try simp only [Act.put, putA, putZ, putS]
                    refine wpAnyH_take (i := 14) (oi := ⟨some 74, _, _, _, _, _⟩) (v := undef) rfl (by kernel_rfl) (by kernel_rfl) (by kernel_rfl) (fun _ _ _ h => h) (Or.inr ⟨by rfl, rfl⟩) hS ?_
                    try simp only [Act.put, putA, putZ, putS]
                    refine wpAnyH_take (i := 15) (oi := ⟨some 75, _, _, _, _, _⟩) (v := undef) rfl (by kernel_rfl) (by kernel_rfl) (by kernel_rfl) (fun _ _ _ h => h) (Or.inr ⟨by rfl, rfl⟩) hS ?_
                    try simp only [Act.put, putA, putZ, putS]
                    refine wpAnyH_take (i := 16) (oi := ⟨some 76, _, _, _, _, _⟩) (v := undef) rfl (by kernel_rfl) (by kernel_rfl) (by kernel_rfl) (fun _ _ _ h => h) (Or.inr ⟨by rfl, rfl⟩) hS ?_
                    try simp only [Act.put, putA, putZ, putS]
                    refine wpAnyH_take (i := 17) (oi := ⟨some 77, _, _, _, _, _⟩) (v := undef) rfl (by kernel_rfl) (by kernel_rfl) (by kernel_rfl) (fun _ _ _ h => h) (Or.inr ⟨by rfl, rfl⟩) hS ?_
                    try simp only [Act.put, putA, putZ, putS]
                    refine wpAnyH_take (i := 18) (oi := ⟨some 78, _, _, _, _, _⟩) (v := undef) rfl (by kernel_rfl) (by kernel_rfl) (by kernel_rfl) (fun _ _ _ h => h) (Or.inr ⟨by rfl, rfl⟩) hS ?_
                    try simp only [Act.put, putA, putZ, putS]
                    refine wpAnyH_take (i := 19) (oi := ⟨some 79, _, _, _, _, _⟩) (v := undef) rfl (by kernel_rfl) (by kernel_rfl) (by kernel_rfl) (fun _ _ _ h => h) (Or.inr ⟨by rfl, rfl⟩) hS ?_
                    try simp only [Act.put, putA, putZ, putS]
                    refine wpAnyH_take (i := 20) (oi := ⟨some 80, _, _, _, _, _⟩) (v := undef) rfl (by kernel_rfl) (by kernel_rfl) (by kernel_rfl) (fun _ _ _ h => h) (Or.inr ⟨by rfl, rfl⟩) hS ?_
                    try simp only [Act.put, putA, putZ, putS]
                    refine wpAnyH_take (i := 21) (oi := ⟨some 81, _, _, _, _, _⟩) (v := undef) rfl (by kernel_rfl) (by kernel_rfl) (by kernel_rfl) (fun _ _ _ h => h) (Or.inr ⟨by rfl, rfl⟩) hS ?_
                    try simp only [Act.put, putA, putZ, putS]
                    refine tk [22, 23] ?_
                    repeat (refine tkH (oi := ⟨_, _, _, _, _, _⟩) (v := ?_) rfl (by kernel_rfl) (by rfl) (fun _ _ _ h => h) hS ?_ ?_; rotate_left; (· rintro W' ⟨z0, z1, z2, z3, z4, z5⟩; go_simp; try with_reducible rfl); try simp only [Act.put, putA, putZ, putS])
                    refine tk0 ?_
                    refine wpAnyH_done (by kernel_rfl) ?_ _
                    go_wp2_with fail
                    go_meet
                    exact ⟨by rw [canD, HBV.out, decide_eq_false (by omega : ¬ 0 ≤ A k)]; rfl, HAX.out⟩
              case rest =>
                obtain ⟨rfl, hbz⟩ := hcut
                rename World => wz
                have HBZ := Lib.hid (below_step HBY.out hbz); have HRZ := Lib.hid (own_below HRY.out hbz)
                clear hbz HBY HRY HCX HDB HDL
                obtain ⟨mn, hmn⟩ : ∃ mn, mn = min k (t.ng - 1) := ⟨_, rfl⟩
                have hmin : min (k : Int) ((t.ng : Int) - 1) = (mn : Int) := by omega
                have mi : (0 : Int) ≤ (mn : Int) := by omega
                have mj : (mn : Int) < (t.ng : Int) := by omega
                have hml : mn < t.ng := by omega
                have HMN := Lib.hid hmn
                clear hmn
                have HC4 : Hid (∀ X, Below wz.heap.size wz X → X.cell? ⟨wR.heap.size, mn, none⟩ = some (.int .i64 (addP (t.ng - 1) A (x.d c) k mn)) ∧ X.cell? ⟨ab, k, none⟩ = some (.int .i64 (A k)) ∧ X.cell? ⟨w.heap.size + 1, 2, none⟩ = some (.slice (some ⟨bd, od, none⟩) x.nd y.dc) ∧ X.cell? ⟨bd, od + c, none⟩ = some (.slice (some ⟨bq, oq, none⟩) (x.dl c) rdc) ∧ X.cell? ⟨bq, oq + k, none⟩ = some (.int .i64 (x.d c k))) := fun X hX => ⟨((own_below HRZ.out hX).cellAt mn (by omega)).trans (iL_get _ hml), HCM.out X (below_step HBZ.out hX)⟩
                have HAX : Hid (Below wz.heap.size wz wz.drew) := (Below.refl _ _).drew
                go_wp2_with fail
                refine wp_region_Z (S := fun X => X.cell? ⟨wR.heap.size, mn, none⟩ = some (.int .i64 (addP (t.ng - 1) A (x.d c) k mn)) ∧ X.cell? ⟨ab, k, none⟩ = some (.int .i64 (A k)) ∧ X.cell? ⟨w.heap.size + 1, 2, none⟩ = some (.slice (some ⟨bd, od, none⟩) x.nd y.dc) ∧ X.cell? ⟨bd, od + c, none⟩ = some (.slice (some ⟨bq, oq, none⟩) (x.dl c) rdc) ∧ X.cell? ⟨bq, oq + k, none⟩ = some (.int .i64 (x.d c k))) (by kernel_rfl) (HC4.out _ HAX.out) (fun hS => ?_)
                generalize wz.drew = X at *
                refine tk [0, 1, 2] ?_
                repeat (refine tkZ (oi := ⟨_, _, _, _, _, _⟩) (v := ?_) rfl (by kernel_rfl) (by rfl) (fun _ _ _ h => h) hS ?_ ?_; rotate_left; (· rintro W' ⟨z0, z1, z2, z3, z4⟩; go_simp; try with_reducible rfl); try simp only [Act.put, putA, putZ, putS])
                refine tk0 ?_
                refine tZ 3 (oi := ⟨_, _, _, _, _, _⟩) (v := .int .i64 (mn : Int)) rfl (by kernel_rfl) (by rfl) (fun _ _ _ h => h) hS ?_ ?_
                · rintro W' ⟨z0, z1, z2, z3, z4⟩; go_simp; (split <;> omega)
                try simp only [Act.put, putA, putZ, putS]
                refine tk [4, 5, 6, 7, 8, 9, 10, 11, 12, 13, 14, 15, 16, 17, 18, 19, 20] ?_
                repeat (refine tkZ (oi := ⟨_, _, _, _, _, _⟩) (v := ?_) rfl (by kernel_rfl) (by rfl) (fun _ _ _ h => h) hS ?_ ?_; rotate_left; (· rintro W' ⟨z0, z1, z2, z3, z4⟩; go_simp; try with_reducible rfl); try simp only [Act.put, putA, putZ, putS])
                refine tk0 ?_
                refine wpAnyZ_next (rs := [21]) (by kernel_rfl) (by simp) ?_
                refine NextZ.last (o := ⟨none, _, _, _, _, _⟩) rfl (by kernel_rfl) (fun K hK => ?_)
                have hrx := own_below HRZ.out HAX.out
                have e0 := hS.1
                have f0 := hrx.frozenAt mn
                have hst := hrx.stored mn (.int .i64 (wrap64 (addP (t.ng - 1) A (x.d c) k mn + wrap64 (A k - x.d c k))))
                have HRN : Hid ((X.setCell ⟨wR.heap.size, mn, none⟩ (.int .i64 (wrap64 (addP (t.ng - 1) A (x.d c) k mn + wrap64 (A k - x.d c k))))).ownsRow wR.heap.size 3 1 (.slice (some ⟨wR.heap.size, 0, none⟩) t.ng t.ng) t.ng (iL (addP (t.ng - 1) A (x.d c) (k + 1)) t.ng)) := by
                  have h1 := hst.1
                  rw [iL_set _ _ hml] at h1
                  rw [iL_congr (z' := addP (t.ng - 1) A (x.d c) (k + 1)) (fun j hj => by
                    by_cases e : j = mn
                    · subst e; rw [if_pos rfl, addP, if_pos HMN.out]
                    · rw [if_neg e, addP, if_neg (fun e2 => e (e2.trans HMN.out.symm))])] at h1
                  exact h1
                have HBN : Hid (Below wR.heap.size wR (X.setCell ⟨wR.heap.size, mn, none⟩ (.int .i64 (wrap64 (addP (t.ng - 1) A (x.d c) k mn + wrap64 (A k - x.d c k)))))) := (below_step HBZ.out HAX.out).trans ((Fr.set X wR.heap.size mn (.int .i64 (wrap64 (addP (t.ng - 1) A (x.d c) k mn + wrap64 (A k - x.d c k))))).low (below_step HBZ.out HAX.out).size (fun q hq e => by omega))
                clear hrx hst
                go_simp
                refine hK.out _ _ ?_
                clear hK K e0 f0
                (try simp only [Act.put])
                refine wpAnyZ_done (by kernel_rfl) ?_ _
                go_wp2_with fail
                go_roundw
                case rel => exact ⟨k + 1, by omega, by go_num, rfl, HBN.out, HRN.out⟩
                case measure => simp [intOf]; omega

          · obtain rfl : k = t.ng + 1 := by omega
            rw [show ((t.ng + 1 : Nat) : Int) = (t.ng : Int) + 1 from by omega]
            go_wp2_with fail
            go_loopw [7, 14] (fun vb i wz => ∃ g : Nat, g ≤ t.ng ∧ i = .int .i64 g ∧ vb = .bool (canR (siz t.ng x (c + 1)) g (canD t.r A (x.d c) (t.ng + 1) cb)) ∧ Below wR.heap.size wR wz ∧ wz.ownsRow wR.heap.size 3 1 (.slice (some ⟨wR.heap.size, 0, none⟩) t.ng t.ng) t.ng (iL (fun j => if j < g then siz t.ng x (c + 1) j else addP (t.ng - 1) A (x.d c) (t.ng + 1) j) t.ng)) (fun _ i _ => t.ng - (intOf i).toNat)
            case atStart => exact ⟨0, Nat.zero_le _, rfl, rfl, HB2.out, HR0.out⟩
            case round =>
              clear HB2 HR0
              obtain ⟨g, hg, rfl, rfl, hbz, hrz⟩ := hrel
              have HB3 := Lib.hid hbz; have HR3 := Lib.hid hrz
              clear hbz hrz
              have HA3 := Lib.hid (HAR.out.below HB3.out)
              have d0 := HA3.out.cell (.head _) 0
              have d1 := HA3.out.cell (.head _) 1
              have d2 := HA3.out.cell (.head _) 2
              have d3 := HA3.out.cell (.head _) 3
              have gi : (0 : Int) ≤ (g : Int) := by omega
              obtain ⟨bv, HBV⟩ : ∃ bv, Hid (canR (siz t.ng x (c + 1)) g (canD t.r A (x.d c) (t.ng + 1) cb) = bv) := ⟨_, rfl⟩
              by_cases hlg : g < t.ng
              · have gj : (g : Int) < (t.ng : Int) := by omega
                obtain ⟨bm, om, rm, rmc, hma, hbm, hxm, hrm⟩ := HXM.out.at (k := c) (by have := HP.out.m; omega)
                obtain ⟨bq, oq, rfl, hbq, hxq⟩ := hrm.at (k := g) (by rw [HP.out.ml c hlt]; exact hlg)
                have kml : (g : Int) < (x.ml c : Int) := by rw [HP.out.ml c hlt]; exact gj
                have kcm : (c : Int) < (x.nm : Int) := by have := HP.out.m; omega
                rw [HBV.out]
                have HCM : Hid (∀ X, Below wR.heap.size wR X → X.cell? ⟨w.heap.size + 1, 3, none⟩ = some (.slice (some ⟨bm, om, none⟩) x.nm y.mc) ∧ X.cell? ⟨bm, om + c, none⟩ = some (.slice (some ⟨bq, oq, none⟩) (x.ml c) rmc) ∧ X.cell? ⟨bq, oq + g, none⟩ = some (.int .i64 (x.m c g))) := fun X hX => ⟨by rw [← hma]; exact (HAR.out.below hX).cell (.tail _ (.head _)) 3, kept (HAR.out.below hX).fr hbm hxm, kept (HAR.out.below hX).fr hbq hxq⟩
                clear hma hbm hxm hrm hbq hxq
                go_wp2_with (go_at_call 23; refine (HG.out _ HA3.out.fr).mono ?_; rintro _ w5 ⟨rfl, hb5⟩; have HB5 := Lib.hid (below_step HB3.out hb5); have HR5 := Lib.hid (own_below HR3.out hb5); clear hb5)
                have HCK : Hid (∀ X, Below w5.heap.size w5 X → X.cell? ⟨wR.heap.size, g, none⟩ = some (.int .i64 (addP (t.ng - 1) A (x.d c) (t.ng + 1) g)) ∧ X.cell? ⟨w.heap.size + 1, 3, none⟩ = some (.slice (some ⟨bm, om, none⟩) x.nm y.mc) ∧ X.cell? ⟨bm, om + c, none⟩ = some (.slice (some ⟨bq, oq, none⟩) (x.ml c) rmc) ∧ X.cell? ⟨bq, oq + g, none⟩ = some (.int .i64 (x.m c g))) := fun X hX => ⟨((own_below HR5.out hX).cellAt g (by omega)).trans (by rw [iL_get _ hlg]; simp), HCM.out X (below_step HB5.out hX)⟩
                have HAX : Hid (Below w5.heap.size w5 w5.drew) := (Below.refl _ _).drew
                clear d0 d1 d2 d3 HB3 HR3 HA3 HCM
                refine wp_region_Z (S := fun X => X.cell? ⟨wR.heap.size, g, none⟩ = some (.int .i64 (addP (t.ng - 1) A (x.d c) (t.ng + 1) g)) ∧ X.cell? ⟨w.heap.size + 1, 3, none⟩ = some (.slice (some ⟨bm, om, none⟩) x.nm y.mc) ∧ X.cell? ⟨bm, om + c, none⟩ = some (.slice (some ⟨bq, oq, none⟩) (x.ml c) rmc) ∧ X.cell? ⟨bq, oq + g, none⟩ = some (.int .i64 (x.m c g))) (by kernel_rfl) (HCK.out _ HAX.out) (fun hS => ?_)
                generalize w5.drew = X at *
                refine tk [0, 1, 2, 3, 4, 5, 6, 7, 8, 9, 10, 11, 12, 13] ?_
                repeat (refine tkZ (oi := ⟨_, _, _, _, _, _⟩) (v := ?_) rfl (by kernel_rfl) (by rfl) (fun _ _ _ h => h) hS ?_ ?_; rotate_left; (· rintro W' ⟨z0, z1, z2, z3⟩; go_simp; try with_reducible rfl); try simp only [Act.put, putA, putZ, putS])
                refine tk0 ?_
                refine wpAnyZ_next (rs := [14]) (by kernel_rfl) (by simp) ?_
                refine NextZ.last (o := ⟨none, _, _, _, _, _⟩) rfl (by kernel_rfl) (fun K hK => ?_)
                have hrx := own_below HR5.out HAX.out
                have e0 := hS.1
                have f0 := hrx.frozenAt g
                have hst := hrx.stored g (.int .i64 (wrap64 (addP (t.ng - 1) A (x.d c) (t.ng + 1) g + x.m c g)))
                have HRN : Hid ((X.setCell ⟨wR.heap.size, g, none⟩ (.int .i64 (wrap64 (addP (t.ng - 1) A (x.d c) (t.ng + 1) g + x.m c g)))).ownsRow wR.heap.size 3 1 (.slice (some ⟨wR.heap.size, 0, none⟩) t.ng t.ng) t.ng (iL (fun j => if j < g + 1 then siz t.ng x (c + 1) j else addP (t.ng - 1) A (x.d c) (t.ng + 1) j) t.ng)) := by
                  have h1 := hst.1
                  rw [iL_set _ _ hlg] at h1
                  rw [iL_congr (z' := fun j => if j < g + 1 then siz t.ng x (c + 1) j else addP (t.ng - 1) A (x.d c) (t.ng + 1) j) (fun j hj => by
                    by_cases e : j = g
                    · subst e; rw [if_pos rfl, if_pos (by omega), ← HAE.out]; rfl
                    · rw [if_neg e]; by_cases e2 : j < g
                      · rw [if_pos e2, if_pos (by omega)]
                      · rw [if_neg e2, if_neg (by omega)])] at h1
                  exact h1
                have HBN : Hid (Below wR.heap.size wR (X.setCell ⟨wR.heap.size, g, none⟩ (.int .i64 (wrap64 (addP (t.ng - 1) A (x.d c) (t.ng + 1) g + x.m c g))))) := (below_step HB5.out HAX.out).trans ((Fr.set X wR.heap.size g (.int .i64 (wrap64 (addP (t.ng - 1) A (x.d c) (t.ng + 1) g + x.m c g)))).low (below_step HB5.out HAX.out).size (fun q hq e => by omega))
                clear hrx hst
                go_simp
                refine hK.out _ _ ?_
                clear hK K e0 f0
                (try simp only [Act.put])
                refine wpAnyZ_done (by kernel_rfl) ?_ _
                have y0 : (X.setCell ⟨wR.heap.size, g, none⟩ (.int .i64 (wrap64 (addP (t.ng - 1) A (x.d c) (t.ng + 1) g + x.m c g)))).cell? ⟨wR.heap.size, g, none⟩ = some (.int .i64 (siz t.ng x (c + 1) g)) := (HRN.out.cellAt g (by omega)).trans (by rw [iL_get _ hlg]; simp)
                obtain ⟨q, HQ⟩ : ∃ q, Hid (siz t.ng x (c + 1) g = q) := ⟨_, rfl⟩
                rw [HQ.out] at y0
                cases bv
                ·
                  go_wp2_with fail
                  go_roundw
                  case rel => exact ⟨g + 1, by omega, by go_num, by rw [canR, HBV.out]; rfl, HBN.out, HRN.out⟩
                  case measure => simp [intOf]; omega
                · by_cases hq : 0 ≤ q
                  ·
                    go_wp2_with fail
                    go_roundw
                    case rel => exact ⟨g + 1, by omega, by go_num, by rw [canR, HBV.out, HQ.out, decide_eq_true hq]; rfl, HBN.out, HRN.out⟩
                    case measure => simp [intOf]; omega
                  ·
                    go_wp2_with fail
                    go_roundw
                    case rel => exact ⟨g + 1, by omega, by go_num, by rw [canR, HBV.out, HQ.out, decide_eq_false hq]; rfl, HBN.out, HRN.out⟩
                    case measure => simp [intOf]; omega
              · obtain rfl : g = t.ng := by omega
                rw [HBV.out]
                go_wp2_with (first | (go_at_call 23; refine (HG.out _ HA3.out.fr).mono ?_; rintro _ w5 ⟨rfl, hb5⟩; have HB5 := Lib.hid (below_step HB3.out hb5); have HR5 := Lib.hid (own_below HR3.out hb5); clear hb5) | (at_builtin; refine wpList_append_src _ rfl (.tmp 132) (.tmp 134) 73 rfl w.heap.size 72 i2 (.slice none 0 0) 1 24 Try.underlying73 hi2 hx0 hx1 hx2 rfl (by decide) (.slice (some ⟨go, 0, none⟩) (c + 1) occ) (c + 1) ((List.range (c + 1)).map vs) rfl ((own_below HOR.out.1 HB5.out).alloc _) (some ⟨w5.heap.size, 0, none⟩) 1 1 [.slice (some ⟨wR.heap.size, 0, none⟩) t.ng t.ng] rfl ⟨rfl, fun j u hu => ⟨_, rfl, World.news_of_block (heap_alloc_new w5 _) j u hu⟩⟩ (by simp [Value.oneCell']) ?a1 ?a2 ?a3 ?_))
                case a1 => unfold maxLen; omega
                case a2 => omega
                case a3 => have := HB5.out.size; have := HAR.out.fr.size; simp; omega
                intro v1 w9 hown hgr hlt9
                have hba := below_step HB5.out (below_alloc w5 (.cells #[.slice (some ⟨wR.heap.size, 0, none⟩) t.ng t.ng] 72))
                have hBF := HAR.out.below hba
                have hne : ∀ b cs T, T ≠ 72 → (w5.alloc (.cells #[.slice (some ⟨wR.heap.size, 0, none⟩) t.ng t.ng] 72)).heap[b]? = some (.cells cs T (0, 0)) → ¬ (Value.slice (some ⟨go, 0, none⟩) (c + 1) occ).ownBlock = some b := fun b cs T hT hb e => by
                  rcases (own_below HOR.out.1 hba).2 with ⟨e1, _⟩ | ⟨g', cap, cur', e1, _, hg', _⟩
                  · rw [e1] at e; cases e
                  · rw [e1] at e; cases e; rw [hb] at hg'; cases hg'; exact hT rfl
                have HA9 : Hid (BF w w9 [(w.heap.size, #[.slice u.ca t.nc u.cc, .slice u.ba t.nb u.bc, .slice u.ra t.nr u.rc, .slice u.na t.nn u.nc], 25), (w.heap.size + 1, #[.slice y.fa x.nf y.fc, .slice y.ba x.nb y.bc, .slice y.da x.nd y.dc, .slice y.ma x.nm y.mc], 75)]) := hBF.fro (Fr.grown hgr) (fun q hq e => by have := ((own_below HOR.out.1 hba).lt q e).1; omega) (List.forall_mem_cons.2 ⟨fun e => hne _ _ _ (by decide) (hBF.bk _ _ _ (.head _)).2 e, List.forall_mem_cons.2 ⟨fun e => hne _ _ _ (by decide) (hBF.bk _ _ _ (.tail _ (.head _))).2 e, List.forall_mem_nil _⟩⟩)
                have HU : (w5.alloc (.cells #[.slice (some ⟨wR.heap.size, 0, none⟩) t.ng t.ng] 72)).ownsRow w.heap.size 3 1 (.slice (some ⟨wR.heap.size, 0, none⟩) t.ng t.ng) t.ng (iL (siz t.ng x (c + 1)) t.ng) := by
                  have h1 := own_mono (HR5.out.alloc (.cells #[.slice (some ⟨wR.heap.size, 0, none⟩) t.ng t.ng] 72)) HAR.out.fr.size
                  rw [iL_congr (z' := siz t.ng x (c + 1)) (fun j hj => if_pos hj)] at h1
                  exact h1
                have hown2 : w9.ownsRow w.heap.size 72 1 v1 (c + 1 + 1) ((List.range (c + 1)).map vs ++ [.slice (some ⟨wR.heap.size, 0, none⟩) t.ng t.ng]) := by
                  rw [List.range_succ, List.map_append, List.append_assoc]; exact hown
                have HO9 := Lib.hid ((HOR.out.below hba).step HU hown2 hgr)
                have HCN : Hid (bv = canC t x (c + 1)) := by
                  unfold Hid; rw [← HBV.out, ← HCB.out, ← HAE.out]; rfl
                clear hown hown2 hgr hlt9 hba hBF hne HU
                go_wp2_with fail
                go_roundw
                case rel => exact ⟨c + 1, _, by omega, by go_num, by rw [HCN.out], HA9.out, HO9.out⟩
                case measure => simp [intOf]; omega
    · obtain rfl : c = t.nb := by omega
      go_wp2_with fail
      go_ret2
      exact ⟨_, rfl, HO.out.rows, HA.out.fr, fun X hX => (HO.out.abv hX (Nat.le_refl _)).rows, _, _, rfl, own_cap HO.out.1⟩
theorem play_any (u : WV) (t : Tb) (y : XV) (x : Tr) (hs : t.small) (w : World) (hl : WLi w u t) (hx : XL w y x) (hp : PlayOk t x) :
    Calls Try.prog 52 #[.agg #[u.cv t, u.bv t, u.rv t, u.nv t], .agg #[.slice y.fa x.nf y.fc, .slice y.ba x.nb y.bc, .slice y.da x.nd y.dc, .slice y.ma x.nm y.mc]] w fun e w' => ∃ v, e = .returned (.tuple #[v, .bool (canC t x t.nb)]) ∧ IRows w' v (t.nb + 1) (fun _ => t.ng) (siz t.ng x) ∧ Below w.heap.size w w' ∧ ∀ X, Abv w.heap.size w' X → IRows X v (t.nb + 1) (fun _ => t.ng) (siz t.ng x) := by
  refine (play_anyC u t y x hs w hl hx.toIn hp).mono ?_
  rintro _ w' ⟨v, rfl, h1, h2, h3, _⟩
  exact ⟨v, rfl, h1, h2, h3⟩
end Go.Proofs.Ytjaoflfophcibaa
