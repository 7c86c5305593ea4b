/- On whole; Clone; what Leave looks for. | Leave: the recursive search. | Leave: the recursive search, by induction; Leave. | Leave. | The chapter's examples, reckoned. | between, rules, somebody, ints. | ints; awake. -/
import Derived.Test.YtagfcfojfjkmbaaPB
import Derived.Lib.SliceRun
import Derived.Deep.RegionLawGrows
import Derived.Laws.EntriesVeiled
namespace Go.Proofs.Ytagfcfojfjkmbaa
open Go.RowKit Go.Shelf

theorem on_any (v : Value) (p : Pers) (day : Int) (w : World) (h : PersAt w v p) (hn : p.nr ≤ 100000) (hc : p.nc ≤ 100000) :
    Calls Try.prog 26 #[v, .int .i64 day] w (GivesE w w.heap.size (p.on day) (p.onE day)) := by
  by_cases hE : p.onE day = 0
  · have e : p.on day = onL day (yearsL p.born) := by unfold Pers.on; rw [if_pos hE]
    rw [e, hE]
    unfold Pers.onE at hE
    by_cases hf : p.fault = 0
    · rw [if_pos hf] at hE
      cases hd : inB day (-50000) 50000
      · rw [hd] at hE; simp at hE
      · rw [hd] at hE
        cases hb : p.born with
        | nil => rw [hb] at hE; simp at hE
        | cons r l =>
          rw [hb] at hE
          by_cases hr : day < r.1
          · simp [hr] at hE
          · rw [← hb]; exact on_good v p day r l w h hn hc hf hd hb hr
    · rw [if_neg hf] at hE; exact absurd hE hf
  · have e : p.on day = [] := by unfold Pers.on; rw [if_neg hE]
    rw [e]
    exact on_bad v p day w h hn hc hE

def intsV (l : List Int) : List Value := l.map (Value.int .i64)
/-- A slice of ints of one's own. -/
def IL (W : World) (v : Value) (l : List Int) : Prop := W.ownsRow 0 3 1 v l.length (intsV l)
theorem Try.infoInt : (Try.prog.info? 3).map (fun i => (i.zero, i.size, i.bytes)) = some (some (.int .i64 0), 1, 8) := by kernel_rfl
theorem IL.nil (W : World) : IL W (.slice none 0 0) [] := World.ownsRow_nil _ _ _ _
theorem intsV_get (l : List Int) (j : Nat) : (intsV l)[j]? = (l[j]?).map (Value.int .i64) := by simp [intsV]
theorem IL.cell {W : World} {g cap : Nat} {l : List Int} (h : IL W (.slice (some ⟨g, 0, none⟩) l.length cap) l) (j : Nat) (hj : j < l.length) : W.cell? ⟨g, j, none⟩ = some (.int .i64 l[j]) := by
  have := World.ownsRow.cellAt h j (by simp; omega)
  rw [this, intsV_get]; simp [hj]
theorem IL.form {W : World} {v : Value} {l : List Int} (h : IL W v l) : (v = .slice none 0 0 ∧ l = []) ∨ ∃ g cap, v = .slice (some ⟨g, 0, none⟩) l.length cap ∧ g < W.heap.size := by
  rcases h.2 with ⟨rfl, h0⟩ | ⟨g, cap, cur, rfl, _, hc, _⟩
  · exact .inl ⟨rfl, List.eq_nil_of_length_eq_zero h0⟩
  · exact .inr ⟨g, cap, rfl, (Array.getElem?_eq_some_iff.1 hc).1⟩
theorem IL.ints {W : World} {v : Value} {l : List Int} (h : IL W v l) : IntsAt W v l.length (fun j => l.getD j 0) := by
  rcases h.form with ⟨rfl, rfl⟩ | ⟨g, cap, rfl, hg⟩
  · exact .inl ⟨rfl, rfl⟩
  · refine .inr ⟨g, 0, cap, rfl, hg, fun j hj => ?_⟩
    rw [Nat.zero_add, h.cell j hj]; simp [hj]
theorem IL.below {W W' : World} {v : Value} {l : List Int} (h : IL W v l) (hb : Below W.heap.size W W') : IL W' v l := own_fr h (Fr.below hb (fun _ => False)) (fun _ _ _ _ _ h => h)

set_option maxRecDepth 100000 in
set_option maxHeartbeats 2000000 in
theorem clone_nil (w : World) :
    Calls Try.prog 74 #[.slice none 0 0] w fun e w' => e = .returned (.slice none 0 0) ∧ w = w' := by
  have hnil : ∀ W : World, (binOp .eql 22 (.slice none 0 0) (.slice none 0 0)).run Try.prog W = .ok (.bool true) W := fun W => Lib.run_eql_slice_nil W 22 3 none 0 0 0 0 Try.underlying22
  go_enter Try.func74, Try.ntmps74
  go_wp2
  go_ret
  exact ⟨rfl, rfl⟩
set_option maxRecDepth 100000 in
set_option maxHeartbeats 2000000 in
theorem clone_some (g n cap : Nat) (l : List Int) (w : World) (hn : l.length = n) (h0 : 0 < n) (hl : n ≤ 1000) (h : IL w (.slice (some ⟨g, 0, none⟩) l.length cap) l) :
    Calls Try.prog 74 #[.slice (some ⟨g, 0, none⟩) n cap] w fun e w' => ∃ v, e = .returned v ∧ IL w' v l ∧ Below w.heap.size w w' := by
  obtain ⟨i0, hi0, hz0, hz1, hz2⟩ := info_parts Try.infoInt
  have hcells : ∀ j u, (intsV l)[j]? = some u → w.cell? ((⟨g, 0, none⟩ : Addr).add j) = some u := fun j u hu => by
    have hadd : (⟨g, 0, none⟩ : Addr).add j = ⟨g, j, none⟩ := by unfold Addr.add; split <;> simp_all
    rw [hadd, World.ownsRow.cellAt h j (by have := (List.getElem?_eq_some_iff.1 hu).1; simp [intsV] at this ⊢; omega)]
    exact hu
  have HC := Lib.hid hcells; have HN := Lib.hid hn; have HH := Lib.hid h
  clear hcells hn h
  have hnil : ∀ W : World, (binOp .eql 22 (.slice (some ⟨g, 0, none⟩) n cap) (.slice none 0 0)).run Try.prog W = .ok (.bool false) W := fun W => Lib.run_eql_slice_nil W 22 3 (some ⟨g, 0, none⟩) n cap 0 0 Try.underlying22
  go_enter Try.func74, Try.ntmps74
  go_wp2_with (at_builtin; refine wpList_append_own _ rfl _ _ 22 rfl 0 3 i0 (.int .i64 0) 1 8 Try.underlying22 hi0 hz0 hz1 hz2 rfl (by decide) (.slice (some ⟨w.heap.size, 0, none⟩) 0 0) 0 [] rfl ⟨rfl, .inr ⟨w.heap.size, 0, #[], rfl, Nat.zero_le _, heap_alloc_new w _, Nat.le_refl _, Nat.zero_le _, rfl, rfl⟩⟩ ⟨g, 0, none⟩ n cap (intsV l) rfl ?len ?c1 ?c2 ?c3 ?c4 ?c5 ?_)
  case len => simp [intsV, HN.out]
  case c1 =>
    intro j u hu
    have hg : g < w.heap.size := by
      rcases HH.out.form with ⟨h, _⟩ | ⟨g', cap', e, hg⟩
      · cases h
      · cases e; exact hg
    have hadd : (⟨g, 0, none⟩ : Addr).add j = ⟨g, j, none⟩ := by unfold Addr.add; split <;> simp_all
    have := HC.out j u hu
    rw [hadd] at this ⊢
    rw [(below_alloc w _).cell (p := ⟨g, j, none⟩) hg]; exact this
  case c2 => intro u hu; simp [intsV] at hu; obtain ⟨x, _, rfl⟩ := hu; rfl
  case c3 => unfold maxLen; omega
  case c4 => omega
  case c5 => omega
  intro v' w1 h1 h2 _
  have HI : Hid (IL w1 v' l) := by
    unfold Hid IL; rw [HN.out]; simpa using h1
  have HB : Hid (Below w.heap.size w w1) := (below_alloc w _).grown h2 (by simp) (fun k hk => by cases hk; exact Nat.le_refl _)
  clear h1 h2
  go_wp2
  go_ret
  exact ⟨v', rfl, HI.out, HB.out⟩

theorem clone_any (v : Value) (l : List Int) (w : World) (h : IL w v l) (hl : l.length ≤ 1000) (hne : v ≠ .slice none 0 0 → 0 < l.length) :
    Calls Try.prog 74 #[v] w fun e w' => ∃ v, e = .returned v ∧ IL w' v l ∧ Below w.heap.size w w' := by
  rcases h.form with ⟨rfl, rfl⟩ | ⟨g, cap, rfl, hg⟩
  · refine (clone_nil w).mono ?_
    rintro e w' ⟨rfl, rfl⟩
    exact ⟨_, rfl, IL.nil _, Below.refl _ _⟩
  · exact clone_some g _ cap l w rfl (hne (fun e => by cases e)) hl h

/-- The first list of records, from some on, without which the others leave a day. -/
def lvL (step : List Int → Nat → Option (List Int)) (nc : Nat) (out : List Int) : Nat → Option (List Int)
  | 0 => none
  | k + 1 => match step (out ++ [((nc - (k + 1) : Nat) : Int)]) (nc - (k + 1) + 1) with
    | some l => some l
    | none => lvL step nc out k
def lvF (nc : Nat) (ok : List Int → Bool) : Nat → List Int → Nat → Option (List Int)
  | 0, out, _ => if ok out then some out else none
  | m + 1, out, next => lvL (lvF nc ok m) nc out (nc - next)
def Pers.okOut (p : Pers) (out : List Int) : Bool := !(daysL p (inL (fun j => out.getD j 0) out.length) p.nc).isEmpty

/-- What stands around the search. -/
def LvEnv (W : World) (p : Pers) (F Bf Bd Bv : Nat) : Prop :=
  FileAt W F p ∧ W.heap[Bf]? = some (.cells #[.pointer (some ⟨F, 0, none⟩)] 118 (0, 0)) ∧ (∃ fv, W.heap[Bd]? = some (.cells #[fv] 22 (0, 0))) ∧
  W.heap[Bv]? = some (.cells #[.func (.func 72) #[] #[.pointer (some ⟨Bf, 0, none⟩), .pointer (some ⟨Bd, 0, none⟩), .pointer (some ⟨Bv, 0, none⟩)]] 120 (0, 0))
theorem FileAt.fr {W W' : World} {ex : Nat → Prop} {F : Nat} {p : Pers} (h : FileAt W F p) (hf : Fr ex W W') (hx : ∀ q c t, ex q → W.heap[q]? = some (.cells c t (0, 0)) → t = 3 ∨ t = 22) : FileAt W' F p := by
  obtain ⟨rv, cv, av, svs, h1, h2, h3, h4⟩ := h
  refine ⟨rv, cv, av, svs, (hf.block _ (Array.getElem?_eq_some_iff.1 h1).1 (fun e => ?_)).trans h1, h2, own_fr h3 hf (fun g cur _ _ hc e => ?_), fun j hj => (h4 j hj).fr hf (fun g cur _ _ hc e => ?_)⟩
  · rcases hx _ _ _ e h1 with h | h <;> exact absurd h (by decide)
  · rcases hx _ _ _ e hc with h | h <;> exact absurd h (by decide)
  · rcases hx _ _ _ e hc with h | h <;> exact absurd h (by decide)
theorem LvEnv.fr {W W' : World} {ex : Nat → Prop} {p : Pers} {F Bf Bd Bv : Nat} (h : LvEnv W p F Bf Bd Bv) (hf : Fr ex W W') (hx : ∀ q c t, ex q → W.heap[q]? = some (.cells c t (0, 0)) → t = 3 ∨ t = 22) (hd : ∃ fv, W'.heap[Bd]? = some (.cells #[fv] 22 (0, 0))) : LvEnv W' p F Bf Bd Bv := by
  obtain ⟨h1, h2, h3, h4⟩ := h
  refine ⟨h1.fr hf hx, (hf.block _ (Array.getElem?_eq_some_iff.1 h2).1 (fun e => ?_)).trans h2, hd, (hf.block _ (Array.getElem?_eq_some_iff.1 h4).1 (fun e => ?_)).trans h4⟩
  · rcases hx _ _ _ e h2 with h | h <;> exact absurd h (by decide)
  · rcases hx _ _ _ e h4 with h | h <;> exact absurd h (by decide)
theorem LvEnv.below {W W' : World} {p : Pers} {F Bf Bd Bv : Nat} (h : LvEnv W p F Bf Bd Bv) (hb : Below W.heap.size W W') : LvEnv W' p F Bf Bd Bv :=
  h.fr (Fr.below hb (fun _ => False)) (fun _ _ _ h => h.elim) (by obtain ⟨_, _, ⟨fv, h3⟩, _⟩ := h; exact ⟨fv, (hb.block _ (Array.getElem?_eq_some_iff.1 h3).1).trans h3⟩)
/-- What the search leaves. -/
def LvPost (W : World) (Bd : Nat) (ov : Value) (out : List Int) (res : Option (List Int)) (e : Ending) (W' : World) : Prop :=
  IL W' ov out ∧ Fr (fun q => q = Bd ∨ ov.ownBlock = some q) W W' ∧
  match res with
  | none => e = .returned (.bool false) ∧ W'.heap[Bd]? = W.heap[Bd]?
  | some l => e = .returned (.bool true) ∧ ∃ fv, W'.heap[Bd]? = some (.cells #[fv] 22 (0, 0)) ∧ IL W' fv l
theorem IL.ex {W : World} {p : Pers} {F Bf Bd Bv : Nat} {ov : Value} {out : List Int} (h : LvEnv W p F Bf Bd Bv) (ho : IL W ov out) : ∀ (q : Nat) (c : Array Value) (t : TypeId), (q = Bd ∨ ov.ownBlock = some q) → W.heap[q]? = some (Obj.cells c t (0, 0)) → t = 3 ∨ t = 22 := by
  rintro q c t (rfl | hq) hc
  · obtain ⟨_, _, ⟨fv, h3⟩, _⟩ := h; rw [h3] at hc; cases hc; exact .inr rfl
  · rcases ho.2 with ⟨rfl, _⟩ | ⟨g, cap, cur, rfl, _, hg, _⟩
    · cases hq
    · cases hq; rw [hg] at hc; cases hc; exact .inl rfl
end Go.Proofs.Ytagfcfojfjkmbaa

namespace Go.Proofs.Ytagfcfojfjkmbaa
open Go.RowKit Go.Shelf

/-- 'v' is v with one more number, in w1; while v' is kept, so is v. -/
def App (X w1 : World) (v : Value) (out : List Int) (i : Int) (v' : Value) : Prop :=
  IL w1 v' (out ++ [i]) ∧ Fr (fun q => v.ownBlock = some q) X w1 ∧ (∃ g cap, v' = .slice (some ⟨g, 0, none⟩) (out.length + 1) cap) ∧ (v'.ownBlock = v.ownBlock ∨ ∀ q, v'.ownBlock = some q → X.heap.size ≤ q) ∧
  ∀ (W' : World) (Bd : Nat), (∀ c, w1.heap[Bd]? ≠ some (Obj.cells c 3 (0, 0))) → IL W' v' (out ++ [i]) → Fr (fun q => q = Bd ∨ v'.ownBlock = some q) w1 W' → IL W' v out

theorem intsV_snoc (l : List Int) (i : Int) : intsV (l ++ [i]) = intsV l ++ [.int .i64 i] := by simp [intsV]
theorem intsV_length (l : List Int) : (intsV l).length = l.length := by simp [intsV]
theorem take_set_snoc (l : List Value) (n : Nat) (v : Value) (h : n < l.length) : (l.set n v).take (n + 1) = l.take n ++ [v] := by
  rw [List.take_succ_eq_append_getElem (by simpa using h)]
  simp [List.take_set_of_le]

theorem app_room {X : World} {g cap : Nat} {out : List Int} {i : Int} (h : IL X (.slice (some ⟨g, 0, none⟩) out.length cap) out) (hr : out.length + 1 ≤ cap) :
    App X (X.setCell ⟨g, out.length, none⟩ (.int .i64 i)) (.slice (some ⟨g, 0, none⟩) out.length cap) out i (.slice (some ⟨g, 0, none⟩) (out.length + 1) cap) := by
  have h0 := h
  rcases h.2 with ⟨h, _⟩ | ⟨g', cap', cur, e, _, hc, hle, hm, hs, ht⟩
  · cases h
  · cases e
    have hblk : (X.setCell ⟨g, out.length, none⟩ (.int .i64 i)).heap[g]? = some (.cells (cur.setIfInBounds out.length (.int .i64 i)) 3 (0, 0)) := by
      simp [World.setCell, Array.getElem?_modify, hc]
    refine ⟨⟨by simp [intsV], .inr ⟨g, cap, _, by simp, Nat.zero_le _, hblk, by simp; omega, hm, by simpa using hs, ?_⟩⟩, (Fr.set X g out.length _).mono (fun q _ e => by rw [e]; rfl), ⟨g, cap, rfl⟩, .inl rfl, ?_⟩
    · rw [intsV_snoc, ← ht]
      simp only [List.length_append, List.length_cons, List.length_nil, Nat.mul_one, Array.toList_setIfInBounds]
      exact take_set_snoc _ _ _ (by simp; omega)
    · intro W' Bd _ hW _
      rcases hW.2 with ⟨h, _⟩ | ⟨g2, cap2, cur2, e2, _, hc2, hle2, hm2, hs2, ht2⟩
      · cases h
      · rw [show (out ++ [i]).length = out.length + 1 from by simp] at e2
        cases e2
        refine ⟨by simp [intsV], .inr ⟨g, cap, cur2, rfl, Nat.zero_le _, hc2, by omega, hm2, hs2, ?_⟩⟩
        rw [intsV_snoc] at ht2
        have := congrArg (List.take out.length) ht2
        simp only [List.length_append, List.length_cons, List.length_nil, Nat.mul_one] at this ⊢
        rw [List.take_take, Nat.min_eq_left (by omega), List.take_append_of_le_length (by rw [intsV_length]; exact Nat.le_refl _), show List.take out.length (intsV out) = intsV out from List.take_of_length_le (by rw [intsV_length]; exact Nat.le_refl _)] at this
        exact this

theorem app_grow {X w1 : World} {v v' : Value} {out : List Int} {i : Int} (h : IL X v out) (h1 : w1.ownsRow X.heap.size 3 1 v' (out.length + 1) (intsV out ++ [.int .i64 i])) (hg : X.grownBy w1 none) : App X w1 v out i v' := by
  obtain ⟨g, cap, rfl, hgb, hgs⟩ := h1.form (by omega)
  have f := (Fr.grown hg).mono (ex' := fun _ => False) (fun _ _ e => by cases e)
  refine ⟨by unfold IL; rw [intsV_snoc]; simpa using own_mono h1 (Nat.zero_le _), f.mono (fun _ _ h => h.elim), ⟨g, cap, rfl⟩, .inr (fun q hq => by cases hq; exact hgb), fun W' Bd hBd _ hf => ?_⟩
  refine own_fr (own_fr h f (fun _ _ _ _ _ h => h)) hf ?_
  rintro q cur hq _ hc (rfl | e)
  · exact hBd _ hc
  · cases e
    rcases h.2 with ⟨rfl, _⟩ | ⟨g2, cap2, cur2, rfl, _, hc2, _⟩
    · cases hq
    · cases hq
      have := (Array.getElem?_eq_some_iff.1 hc2).1
      first | omega | (simp at hgb; omega)

theorem step_append_il {ops : Array Oper} {o : Oper} {a : Act} {X : World} {K : Act → World → Prop} {Q : Exit → Act → World → Prop} {E : Prop} (hgd : o.guard = none) (s x : Operand)
    (ho : o.op = .call { callee := .builtin .append, args := #[s, x], argTypes := #[22, 22] }) (v : Value) (out : List Int) (i : Int) (hs : a.eval s = v) (hil : IL X v out) (hlen : out.length ≤ 1000)
    (ad : Addr) (hx : a.eval x = .slice (some ad) 1 1) (hc : ∀ j u, [Value.int .i64 i][j]? = some u → X.cell? (ad.add j) = some u)
    (h : ∀ v' w', App X w' v out i v' → K (a.put o.dst v') w') :
    if Region.wanted o (yielded ops a.tmps) = true then Oper.wp Try.prog o a X K Q else E := by
  obtain ⟨i0, hi0, hz0, hz1, hz2⟩ := info_parts Try.infoInt
  have hone : ∀ u ∈ [Value.int .i64 i], u.oneCell' = true := by simp [Value.oneCell']
  rcases hil.form with ⟨rfl, rfl⟩ | ⟨g, cap, rfl, hg⟩
  · exact step_append_grows hgd s x 22 ho 3 i0 (.int .i64 0) 1 8 Try.underlying22 hi0 hz0 hz1 hz2 rfl (by decide) none 0 0 [] hs (fun _ => ⟨rfl, rfl⟩) rfl (fun b e => by cases e) ad 1 1 [.int .i64 i] hx rfl hc hone (by omega) (by unfold maxLen; omega) (by omega) (fun v' w' h1 h2 => h v' w' (app_grow hil h1 h2))
  · by_cases hr : out.length + 1 ≤ cap
    · refine step_append_room hgd s x 22 ho 3 i0 1 Try.underlying22 hi0 hz1 g 0 out.length cap hs ad 1 1 [.int .i64 i] hx rfl hc hone hr ?_ ?_
      · intro j hj
        obtain rfl : j = 0 := by simpa using hj
        rcases hil.2 with ⟨h, _⟩ | ⟨g', cap', cur, e, _, hcb, hle, hm, hs', ht⟩
        · cases h
        · cases e
          refine ⟨?_, frozen_of_row X g _ _ _ hcb⟩
          rw [cell_of_row X g _ _ _ _ hcb]
          simp; omega
      · have := h _ _ (app_room hil hr)
        simpa [World.setCells] using this
    · refine step_append_grows hgd s x 22 ho 3 i0 (.int .i64 0) 1 8 Try.underlying22 hi0 hz0 hz1 hz2 rfl (by decide) (some ⟨g, 0, none⟩) out.length cap (intsV out) hs (fun e => by cases e) (by simp [intsV]) ?_ ad 1 1 [.int .i64 i] hx rfl hc hone (by omega) (by unfold maxLen; omega) (by omega) (fun v' w' h1 h2 => h v' w' (app_grow hil h1 h2))
      intro b e j u hu
      cases e
      have hadd : (⟨g, 0, none⟩ : Addr).add j = ⟨g, j, none⟩ := by unfold Addr.add; split <;> simp_all
      rw [hadd, World.ownsRow.cellAt hil j (by have := (List.getElem?_eq_some_iff.1 hu).1; simp [intsV] at this ⊢; omega)]
      exact hu

theorem lvPost_none {W : World} {Bd : Nat} {ov : Value} {out : List Int} {res : Option (List Int)} {e : Ending} {W' : World} (hr : res = none) (h : LvPost W Bd ov out res e W') : e = .returned (.bool false) ∧ IL W' ov out ∧ Fr (fun q => q = Bd ∨ ov.ownBlock = some q) W W' ∧ W'.heap[Bd]? = W.heap[Bd]? := by
  subst hr; exact ⟨h.2.2.1, h.1, h.2.1, h.2.2.2⟩
theorem lvPost_some {W : World} {Bd : Nat} {ov : Value} {out l : List Int} {res : Option (List Int)} {e : Ending} {W' : World} (hr : res = some l) (h : LvPost W Bd ov out res e W') : e = .returned (.bool true) ∧ IL W' ov out ∧ Fr (fun q => q = Bd ∨ ov.ownBlock = some q) W W' ∧ ∃ fv, W'.heap[Bd]? = some (.cells #[fv] 22 (0, 0)) ∧ IL W' fv l := by
  subst hr; exact ⟨h.2.2.1, h.1, h.2.1, h.2.2.2⟩

set_option maxRecDepth 100000 in
set_option maxHeartbeats 2000000 in
theorem lv_zero (p : Pers) (F Bf Bd Bv : Nat) (next : Int) (ov : Value) (out : List Int) (W : World) (hok : p.fault = 0) (hE : LvEnv W p F Bf Bd Bv) (hI : IL W ov out) (hl : out.length ≤ 1000) (hne : ov ≠ .slice none 0 0 → 0 < out.length) :
    Calls Try.prog 72 #[ov, .int .i64 next, .int .i64 0, .pointer (some ⟨Bf, 0, none⟩), .pointer (some ⟨Bd, 0, none⟩), .pointer (some ⟨Bv, 0, none⟩)] W (LvPost W Bd ov out (lvF p.nc p.okOut 0 out next.toNat)) := by
  have HE := Lib.hid hE; have HI := Lib.hid hI; have HOK := Lib.hid hok; have HNE := Lib.hid hne
  obtain ⟨e1, e2, ⟨fv, e3⟩, e4⟩ := hE
  have c2 : W.cell? ⟨Bf, 0, none⟩ = some (.pointer (some ⟨F, 0, none⟩)) := cell_of_row _ _ 0 _ _ _ e2
  have hBds := (Array.getElem?_eq_some_iff.1 e3).1
  have E1 := Lib.hid e1; have E3 := Lib.hid e3
  clear e1 e2 e3 e4 hI hok hne
  have hD := days_any F p ov out.length (fun j => out.getD j 0) W HOK.out E1.out HI.out.ints (by omega)
  generalize hL : daysL p (inL (fun j => out.getD j 0) out.length) p.nc = L at hD
  have HD := Lib.hid hD; clear hD
  rcases Nat.eq_zero_or_pos L.length with h0 | h0
  · have hres : lvF p.nc p.okOut 0 out next.toNat = none := by
      have : L = [] := List.eq_nil_of_length_eq_zero h0
      show (if p.okOut out = true then some out else none) = none
      rw [if_neg (by unfold Pers.okOut; rw [hL, this]; decide)]
    rw [hres]
    have H0 := Lib.hid h0; clear h0 hL hres
    go_enter Try.func72, Try.ntmps72
    go_wp2_with (go_at_call 73; refine HD.out.mono ?_; rintro e w1 ⟨v1, rfl, hr1, hb1⟩; obtain ⟨a1, k1, rfl⟩ := hr1.slice; rw [H0.out]; clear hr1)
    go_ret
    exact ⟨HI.out.below hb1, Fr.below hb1 _, rfl, hb1.block _ hBds⟩
  · have hres : lvF p.nc p.okOut 0 out next.toNat = some out := by
      have : L ≠ [] := fun e => by rw [e] at h0; cases h0
      show (if p.okOut out = true then some out else none) = some out
      rw [if_pos (by unfold Pers.okOut; rw [hL]; cases L with | nil => exact absurd rfl this | cons _ _ => rfl)]
    rw [hres]
    clear hL hres
    generalize hn : L.length = n at *
    have hnz : ((n : Int) == 0) = false := by simp; omega
    have HN := Lib.hid hn; clear hn
    go_enter Try.func72, Try.ntmps72
    go_wp2_with (first
      | (go_at_call 73; refine HD.out.mono ?_; rintro e w1 ⟨v1, rfl, hr1, hb1⟩; obtain ⟨a1, k1, rfl⟩ := hr1.slice; rw [HN.out]; clear hr1)
      | (go_at_call 74; refine (clone_any _ out _ (HI.out.below hb1) hl HNE.out).mono ?_; rintro e w2 ⟨v2, rfl, hi2, hb2⟩; have hb3 : Below W.heap.size W w2 := hb1.trans (hb2.mono hb1.size); have hk2 := (hb3.block _ hBds).trans E3.out; have hc2 : w2.cell? ⟨Bd, 0, none⟩ = some fv := cell_of_row _ _ 0 _ _ _ hk2; have hf2 : w2.frozen? ⟨Bd, 0, none⟩ = false := frozen_of_row _ _ 0 _ _ hk2; have HK2 := Lib.hid hk2; have HI2 := Lib.hid hi2; have HB3 := Lib.hid hb3; obtain ⟨va, vc, rfl⟩ := hi2.ints.len; clear hi2 hb3 hk2 hb2))
    go_ret
    have hsb : ∀ (l : List Int) (v : Value), IL w2 v l → IL (w2.setCell ⟨Bd, 0, none⟩ (.slice va out.length vc)) v l := fun l v hv => own_fr hv (Fr.set w2 Bd 0 _) (fun g cur _ _ hg e => by subst e; rw [HK2.out] at hg; injection hg with e; injection e with _ e2; exact absurd e2 (by decide))
    exact ⟨hsb _ _ (HI.out.below HB3.out), ((Fr.below HB3.out _).trans ((Fr.set w2 Bd 0 _).mono (fun _ _ h => .inl h))), rfl, _, set_one HK2.out, hsb _ _ HI2.out⟩
end Go.Proofs.Ytagfcfojfjkmbaa

namespace Go.Proofs.Ytagfcfojfjkmbaa
open Go.RowKit Go.Shelf

theorem lvL_step {step : List Int → Nat → Option (List Int)} {nc : Nat} {out : List Int} {k : Nat} (hk : k < nc) : lvL step nc out (nc - k) = match step (out ++ [(k : Int)]) (k + 1) with | some l => some l | none => lvL step nc out (nc - (k + 1)) := by
  obtain ⟨d, hd⟩ : ∃ d, nc - k = d + 1 := ⟨nc - k - 1, by omega⟩
  rw [hd, lvL, show nc - (d + 1) = k from by omega, show nc - (k + 1) = d from by omega]
  all_goals (cases step (out ++ [(k : Int)]) (k + 1) <;> rfl)
theorem LvPost.mkNone {W : World} {Bd : Nat} {ov : Value} {out : List Int} {res : Option (List Int)} {e : Ending} {W' : World} (hr : res = none) (h1 : IL W' ov out) (h2 : Fr (fun q => q = Bd ∨ ov.ownBlock = some q) W W') (h3 : e = .returned (.bool false)) (h4 : W'.heap[Bd]? = W.heap[Bd]?) : LvPost W Bd ov out res e W' := by
  subst hr; exact ⟨h1, h2, h3, h4⟩
theorem LvPost.mkSome {W : World} {Bd : Nat} {ov : Value} {out l : List Int} {res : Option (List Int)} {e : Ending} {W' : World} (hr : res = some l) (h1 : IL W' ov out) (h2 : Fr (fun q => q = Bd ∨ ov.ownBlock = some q) W W') (h3 : e = .returned (.bool true)) (h4 : ∃ fv, W'.heap[Bd]? = some (.cells #[fv] 22 (0, 0)) ∧ IL W' fv l) : LvPost W Bd ov out res e W' := by
  subst hr; exact ⟨h1, h2, h3, h4⟩

attribute [local go_sem ↓] Go.wp_at_zero Go.wp_at_succ

set_option maxRecDepth 100000 in
set_option maxHeartbeats 4000000 in
theorem lv_succ (p : Pers) (F Bf Bd Bv : Nat) (hok : p.fault = 0) (m : Nat)
    (ih : ∀ (next : Nat) (ov : Value) (out : List Int) (W : World), LvEnv W p F Bf Bd Bv → IL W ov out → out.length + m ≤ 100 → (ov ≠ .slice none 0 0 → 0 < out.length) → next ≤ 100 →
      Calls Try.prog 72 #[ov, .int .i64 next, .int .i64 m, .pointer (some ⟨Bf, 0, none⟩), .pointer (some ⟨Bd, 0, none⟩), .pointer (some ⟨Bv, 0, none⟩)] W (LvPost W Bd ov out (lvF p.nc p.okOut m out next)))
    (next : Nat) (ov : Value) (out : List Int) (W : World) (hE : LvEnv W p F Bf Bd Bv) (hI : IL W ov out) (hl : out.length + (m + 1) ≤ 100) (hnx : next ≤ 100) :
      Calls Try.prog 72 #[ov, .int .i64 next, .int .i64 ((m : Int) + 1), .pointer (some ⟨Bf, 0, none⟩), .pointer (some ⟨Bd, 0, none⟩), .pointer (some ⟨Bv, 0, none⟩)] W (LvPost W Bd ov out (lvF p.nc p.okOut (m + 1) out next)) := by
  have hnc := (Pers.ok_facts hok).2.1
  have HIH := Lib.hid ih; have HE := Lib.hid hE; have HI := Lib.hid hI; clear ih hE hI hok
  have hmz : (((m : Int) + 1) == 0) = false := by simp; omega
  obtain ⟨oa, oc, rfl⟩ := HI.out.ints.len
  go_enter Try.func72, Try.ntmps72
  go_wp2
  go_loopw [10] (fun i wr => ∃ k : Nat, i = .int .i64 k ∧ next ≤ k ∧ k ≤ 100 ∧ lvF p.nc p.okOut (m + 1) out next = lvL (lvF p.nc p.okOut m) p.nc out (p.nc - k) ∧ IL wr (.slice oa out.length oc) out ∧ Fr (fun q => q = Bd ∨ (Value.slice oa out.length oc).ownBlock = some q) W wr ∧ wr.heap[Bd]? = W.heap[Bd]?) (fun i _ => 200 - (intOf i).toNat)
  case atStart => exact ⟨next, rfl, Nat.le_refl _, hnx, rfl, HI.out, Fr.refl _ _, rfl⟩
  case round =>
    obtain ⟨k, rfl, hk1, hk2, hres, hil, hfr, hbd⟩ := hrel
    have henv : LvEnv wr p F Bf Bd Bv := HE.out.fr hfr (IL.ex HE.out HI.out) (by obtain ⟨_, _, ⟨fv, h3⟩, _⟩ := HE.out; exact ⟨fv, hbd.trans h3⟩)
    have HENV := Lib.hid henv; have HIL := Lib.hid hil; have HFR := Lib.hid hfr; have HBD := Lib.hid hbd; have HRES := Lib.hid hres
    obtain ⟨e1, e2, ⟨fv, e3⟩, e4⟩ := henv
    obtain ⟨rv, cv, av, svs, f1, ⟨ca, cc, rfl⟩, _⟩ := e1
    have c2 : wr.cell? ⟨Bf, 0, none⟩ = some (.pointer (some ⟨F, 0, none⟩)) := cell_of_row _ _ 0 _ _ _ e2
    have c3 : wr.cell? ⟨F, 3, none⟩ = some (.slice ca p.nc cc) := cell_of_row _ _ 3 _ _ _ f1
    have c5 : wr.cell? ⟨Bv, 0, none⟩ = some (.func (.func 72) #[] #[.pointer (some ⟨Bf, 0, none⟩), .pointer (some ⟨Bd, 0, none⟩), .pointer (some ⟨Bv, 0, none⟩)]) := cell_of_row _ _ 0 _ _ _ e4
    have hBv := (Array.getElem?_eq_some_iff.1 e4).1
    have hBd := (Array.getElem?_eq_some_iff.1 e3).1
    have E3 := Lib.hid e3; have E4 := Lib.hid e4
    clear hil hfr hbd hres e2 e3 e4 f1
    by_cases hlt : k < p.nc
    · have hst := HRES.out.trans (lvL_step hlt)
      have HST := Lib.hid hst; clear hst
      have hcall : ∀ (X w1 : World) (v' : Value), Below wr.heap.size wr X → App X w1 (.slice oa out.length oc) out k v' →
          Calls Try.prog 72 #[v', .int .i64 ((k : Int) + 1), .int .i64 m, .pointer (some ⟨Bf, 0, none⟩), .pointer (some ⟨Bd, 0, none⟩), .pointer (some ⟨Bv, 0, none⟩)] w1 fun e W2 =>
            LvPost w1 Bd v' (out ++ [(k : Int)]) (lvF p.nc p.okOut m (out ++ [(k : Int)]) (k + 1)) e W2 ∧ IL W2 (.slice oa out.length oc) out ∧ Fr (fun q => q = Bd ∨ (Value.slice oa out.length oc).ownBlock = some q) W W2 ∧ w1.heap[Bd]? = W.heap[Bd]? ∧ W2.cell? ⟨Bv, 0, none⟩ = some (.func (.func 72) #[] #[.pointer (some ⟨Bf, 0, none⟩), .pointer (some ⟨Bd, 0, none⟩), .pointer (some ⟨Bv, 0, none⟩)]) := by
        intro X w1 v' hX happ
        obtain ⟨a1, a2, ⟨g, cap, hv⟩, a4, a5⟩ := happ
        have envX := HENV.out.below hX
        have exX := IL.ex envX (HIL.out.below hX)
        have a2' := a2.mono (ex' := fun q => q = Bd ∨ (Value.slice oa out.length oc).ownBlock = some q) (fun _ _ h => .inr h)
        have hbdX : X.heap[Bd]? = some (.cells #[fv] 22 (0, 0)) := (hX.block _ hBd).trans E3.out
        have hbd1 : w1.heap[Bd]? = some (.cells #[fv] 22 (0, 0)) := by
          refine (a2.block _ (Nat.lt_of_lt_of_le hBd hX.size) (fun e => ?_)).trans hbdX
          rcases (HIL.out.below hX).2 with ⟨h, _⟩ | ⟨g', cap', cur, h, _, hc, _⟩
          · rw [h] at e; cases e
          · rw [h] at e; cases e; rw [hbdX] at hc; injection hc with e; injection e with _ e2; exact absurd e2 (by decide)
        have env1 : LvEnv w1 p F Bf Bd Bv := envX.fr a2' exX ⟨fv, hbd1⟩
        have env1' := env1
        have := HIH.out (k + 1) v' (out ++ [(k : Int)]) w1 env1 a1 (by simp; omega) (fun _ => by simp) (by omega)
        rw [show ((k + 1 : Nat) : Int) = (k : Int) + 1 from by omega] at this
        refine this.mono fun e W2 hp => ⟨hp, a5 W2 Bd (fun c hc => by rw [hbd1] at hc; injection hc with e; injection e with _ e2; exact absurd e2 (by decide)) hp.1 hp.2.1, ?_, hbd1.trans (E3.out.symm.trans HBD.out), ?_⟩
        rotate_left
        · obtain ⟨_, _, _, env4⟩ := env1
          refine cell_of_row _ _ 0 _ _ _ ((hp.2.1.block _ (Array.getElem?_eq_some_iff.1 env4).1 (fun e => ?_)).trans env4)
          rcases IL.ex (p := p) (F := F) (Bf := Bf) (Bv := Bv) env1' a1 _ _ _ e env4 with h | h <;> exact absurd h (by decide)
        have f1 := HFR.out.trans ((Fr.below hX _).trans a2')
        have s1 := HFR.out.size
        have s2 := hX.size
        refine ⟨hp.2.1.os.trans f1.os, hp.2.1.tape.trans f1.tape, hp.2.1.output.trans f1.output, Nat.le_trans f1.size hp.2.1.size, fun q hq he => (hp.2.1.block q (Nat.lt_of_lt_of_le hq f1.size) ?_).trans (f1.block q hq he)⟩
        rintro (h | h)
        · exact he (.inl h)
        · rcases a4 with e | e
          · exact he (.inr (e ▸ h))
          · have := e q h; omega
      have HCALL := Lib.hid hcall; clear hcall
      have hc5 : ∀ (X w1 : World) (v' : Value), Below wr.heap.size wr X → App X w1 (.slice oa out.length oc) out k v' → w1.cell? ⟨Bv, 0, none⟩ = some (.func (.func 72) #[] #[.pointer (some ⟨Bf, 0, none⟩), .pointer (some ⟨Bd, 0, none⟩), .pointer (some ⟨Bv, 0, none⟩)]) := by
        intro X w1 v' hX happ
        refine cell_of_row _ _ 0 _ _ _ ((happ.2.1.block _ (Nat.lt_of_lt_of_le hBv hX.size) (fun e => ?_)).trans ((hX.block _ hBv).trans E4.out))
        rcases IL.ex (HENV.out.below hX) (HIL.out.below hX) _ _ _ (.inr e) ((hX.block _ hBv).trans E4.out) with h | h <;> exact absurd h (by decide)
      have HC5 := Lib.hid hc5; clear hc5
      have wk : IntKind.i64.wrap ((k : Int) + 1) = (k : Int) + 1 := IntWalk.i64_in _ (by omega)
      have wm : IntKind.i64.wrap (m : Int) = (m : Int) := IntWalk.i64_in _ (by omega)
      have hol : out.length ≤ 1000 := by omega
      cases hr : lvF p.nc p.okOut m (out ++ [(k : Int)]) (k + 1) with
      | none =>
        have HR := Lib.hid hr; clear hr
        have HST2 : Hid (lvF p.nc p.okOut (m + 1) out next = lvL (lvF p.nc p.okOut m) p.nc out (p.nc - (k + 1))) := by
          have := HST.out; rw [HR.out] at this; exact this
        go_wp2
        go_region_held3 (fun w' => w'.cell? ⟨Bv, 0, none⟩ = some (.func (.func 72) #[] #[.pointer (some ⟨Bf, 0, none⟩), .pointer (some ⟨Bd, 0, none⟩), .pointer (some ⟨Bv, 0, none⟩)])) (first | assumption | go_keep) (first
          | (refine step_append_il (by rfl) _ _ (by rfl) (.slice oa out.length oc) out k (by rfl) (IL.below HIL.out ?_) hol ⟨wr.heap.size, 0, none⟩ (by rfl) ?_ ?_; (first | exact (below_alloc _ _).drew | exact (Below.refl _ _).drew.alloc (by simp) _); exact World.news_of_block (cs := #[.int .i64 (k : Int)]) (t := 3) (fr := (0, 0)) (heap_alloc_new wr _); intro v' w1 happ; have HAPP := Lib.hid happ; have hc5 := HC5.out _ _ _ (by first | exact (below_alloc _ _).drew | exact (Below.refl _ _).drew.alloc (by simp) _) happ; obtain ⟨_, happ2, ⟨g, cap, rfl⟩, _⟩ := happ; clear happ2)
          | (go_at_call 72; refine (HCALL.out _ _ _ ?_ HAPP.out).mono ?_; (first | exact (below_alloc _ _).drew | exact (Below.refl _ _).drew.alloc (by simp) _); rintro e W2 ⟨hp, hi2, hf2, hb2, hc6⟩; obtain ⟨rfl, _, _, hb3⟩ := lvPost_none HR.out hp; have HI2 := Lib.hid hi2; have HF2 := Lib.hid hf2; have HB2 := Lib.hid (hb3.trans hb2); clear hp hi2 hf2 hb2 hb3))
        clear wk wm
        go_wp2
        go_roundw
        case rel => exact ⟨k + 1, by go_num, by omega, by omega, HST2.out, HI2.out, HF2.out, HB2.out⟩
        case measure => simp [intOf]; omega
      | some l =>
        have HR := Lib.hid hr; clear hr
        have HST2 : Hid (lvF p.nc p.okOut (m + 1) out next = some l) := by
          have := HST.out; rw [HR.out] at this; exact this
        go_wp2
        go_region_held3 (fun w' => w'.cell? ⟨Bv, 0, none⟩ = some (.func (.func 72) #[] #[.pointer (some ⟨Bf, 0, none⟩), .pointer (some ⟨Bd, 0, none⟩), .pointer (some ⟨Bv, 0, none⟩)])) (first | assumption | go_keep) (first
          | (refine step_append_il (by rfl) _ _ (by rfl) (.slice oa out.length oc) out k (by rfl) (IL.below HIL.out ?_) hol ⟨wr.heap.size, 0, none⟩ (by rfl) ?_ ?_; (first | exact (below_alloc _ _).drew | exact (Below.refl _ _).drew.alloc (by simp) _); exact World.news_of_block (cs := #[.int .i64 (k : Int)]) (t := 3) (fr := (0, 0)) (heap_alloc_new wr _); intro v' w1 happ; have HAPP := Lib.hid happ; have hc5 := HC5.out _ _ _ (by first | exact (below_alloc _ _).drew | exact (Below.refl _ _).drew.alloc (by simp) _) happ; obtain ⟨_, happ2, ⟨g, cap, rfl⟩, _⟩ := happ; clear happ2)
          | (go_at_call 72; refine (HCALL.out _ _ _ ?_ HAPP.out).mono ?_; (first | exact (below_alloc _ _).drew | exact (Below.refl _ _).drew.alloc (by simp) _); rintro e W2 ⟨hp, hi2, hf2, hb2, hc6⟩; obtain ⟨rfl, _, _, hb3⟩ := lvPost_some HR.out hp; have HI2 := Lib.hid hi2; have HF2 := Lib.hid hf2; have HB2 := Lib.hid hb3; clear hp hi2 hf2 hb2 hb3))
        clear wk wm
        go_wp2
        go_ret
        exact LvPost.mkSome HST2.out HI2.out HF2.out rfl HB2.out
    · have HNO : Hid (lvF p.nc p.okOut (m + 1) out next = none) := by unfold Hid; rw [HRES.out, show p.nc - k = 0 from by omega]; rfl
      go_wp2
      go_ret
      exact LvPost.mkNone HNO.out HIL.out HFR.out rfl HBD.out

theorem lv_any (p : Pers) (F Bf Bd Bv : Nat) (hok : p.fault = 0) (m : Nat) : ∀ (next : Nat) (ov : Value) (out : List Int) (W : World), LvEnv W p F Bf Bd Bv → IL W ov out → out.length + m ≤ 100 → (ov ≠ .slice none 0 0 → 0 < out.length) → next ≤ 100 →
      Calls Try.prog 72 #[ov, .int .i64 next, .int .i64 m, .pointer (some ⟨Bf, 0, none⟩), .pointer (some ⟨Bd, 0, none⟩), .pointer (some ⟨Bv, 0, none⟩)] W (LvPost W Bd ov out (lvF p.nc p.okOut m out next)) := by
  induction m with
  | zero =>
    intro next ov out W hE hI hl hne hn
    exact lv_zero p F Bf Bd Bv next ov out W hok hE hI (by omega) hne
  | succ m ih =>
    intro next ov out W hE hI hl _ hn
    exact lv_succ p F Bf Bd Bv hok m ih next ov out W hE hI hl hn

/-- The first size at which a list can be left out. -/
def lvS (f : Nat → Option (List Int)) : Nat → Nat → Option (List Int)
  | 0, _ => none
  | k + 1, m => match f m with
    | some l => some l
    | none => lvS f k (m + 1)
/-- The smallest set of records that can be left out. -/
def Pers.leave (p : Pers) : List Int := if p.fault = 0 then (lvS (fun m => lvF p.nc p.okOut m [] 0) (p.nc + 1) 0).getD [] else []
def GivesI (w : World) (l : List Int) (err : Int) (e : Ending) (w' : World) : Prop := ∃ v, e = .returned (.tuple #[v, .int .i64 err]) ∧ IL w' v l ∧ Below w.heap.size w w'
end Go.Proofs.Ytagfcfojfjkmbaa

namespace Go.Proofs.Ytagfcfojfjkmbaa
open Go.RowKit Go.Shelf

theorem alloc3 (W : World) (o1 o2 o3 : Obj) : (((W.alloc o1).alloc o2).alloc o3).heap.size = W.heap.size + 3 ∧ Below W.heap.size W (((W.alloc o1).alloc o2).alloc o3) ∧
    (((W.alloc o1).alloc o2).alloc o3).heap[W.heap.size]? = some o1 ∧ (((W.alloc o1).alloc o2).alloc o3).heap[W.heap.size + 1]? = some o2 ∧ (((W.alloc o1).alloc o2).alloc o3).heap[W.heap.size + 2]? = some o3 := by
  have s1 := World.size_alloc W o1
  have s2 := World.size_alloc (W.alloc o1) o2
  have s3 := World.size_alloc ((W.alloc o1).alloc o2) o3
  refine ⟨by omega, ((below_alloc W o1).alloc (by omega) o2).alloc (by omega) o3, ?_, ?_, ?_⟩
  · rw [Below.heap_alloc _ _ _ (by omega), Below.heap_alloc _ _ _ (by omega)]; exact World.alloc_heap_new W o1
  · rw [Below.heap_alloc _ _ _ (by omega), ← s1]; exact World.alloc_heap_new _ o2
  · rw [show W.heap.size + 2 = ((W.alloc o1).alloc o2).heap.size from by omega]; exact World.alloc_heap_new _ o3

theorem lvS_step {f : Nat → Option (List Int)} {n k : Nat} (hk : k < n) : lvS f (n - k) k = match f k with | some l => some l | none => lvS f (n - (k + 1)) (k + 1) := by
  obtain ⟨d, hd⟩ : ∃ d, n - k = d + 1 := ⟨n - k - 1, by omega⟩
  rw [hd, lvS, show n - (k + 1) = d from by omega]
  all_goals (cases f k <;> rfl)

set_option maxRecDepth 100000 in
set_option maxHeartbeats 4000000 in
theorem leave_any (v : Value) (p : Pers) (w : World) (h : PersAt w v p) (hn : p.nr ≤ 100000) (hc : p.nc ≤ 100000) :
    Calls Try.prog 33 #[v] w (GivesI w p.leave p.fault) := by
  have HP := Lib.hid h
  obtain ⟨rv, cv, rfl, _, hRc⟩ := h
  obtain ⟨ca, cc, rfl⟩ := hRc.slice
  clear hRc
  by_cases hf : p.fault = 0
  · have hlv : p.leave = (lvS (fun m => lvF p.nc p.okOut m [] 0) (p.nc + 1 - 0) 0).getD [] := by unfold Pers.leave; rw [if_pos hf]; rfl
    have HLV := Lib.hid hlv; clear hlv
    have hnc := (Pers.ok_facts hf).2.1
    have hq : (p.fault != 0) = false := by simp [hf]
    have HF := Lib.hid hf; clear hf
    go_enter Try.func33, Try.ntmps33
    go_wp2
    go_step3
    go_wp2_with (first
      | (go_at_call 42; refine (check_any _ p _ (HP.out.below (below_alloc _ _)) hn hc).mono ?_; rintro e w1 ⟨rfl, hb1⟩; obtain ⟨hc1, hf1⟩ := bcell hb1; have hs1 : w.heap.size + 1 ≤ w1.heap.size := by (have := hb1.size; simp at this; omega))
      | (go_at_call 71; refine (file_any _ p _ ((HP.out.below (below_alloc _ _)).below hb1) HF.out).mono ?_; rintro e w2 ⟨F, rfl, hF, hb2⟩; have HF2 := Lib.hid hF; have hbx : w2.heap[w.heap.size]? = some (.cells #[.int .i64 p.lo, .int .i64 p.hi, rv, .slice ca p.nc cc] 45 (0, 0)) := (hb2.block _ (by omega)).trans ((hb1.block _ (by simp)).trans (heap_alloc_new w _)); have hc3 : w2.cell? ⟨w.heap.size, 3, none⟩ = some (.slice ca p.nc cc) := cell_of_row _ _ 3 _ _ _ hbx; have hs2 : w.heap.size + 1 ≤ w2.heap.size := (Nat.le_trans hs1 hb2.size); have HB2 : Hid (Below w.heap.size w w2) := ((below_alloc w _).trans (hb1.mono (by simp))).trans (hb2.mono (by omega)); clear hF hbx hc1 hf1 hb1 hb2))
    obtain ⟨hz, hb3, b0, b1, b2⟩ := alloc3 w2 (.cells #[.pointer (some ⟨F, 0, none⟩)] 118) (.cells #[.slice none 0 0] 22) (.cells #[.func (.func 72) #[] #[.pointer (some ⟨w2.heap.size, 0, none⟩), .pointer (some ⟨w2.heap.size + 1, 0, none⟩), .pointer (some ⟨w2.heap.size + 1 + 1, 0, none⟩)]] 120)
    have henv : LvEnv (((w2.alloc (.cells #[.pointer (some ⟨F, 0, none⟩)] 118)).alloc (.cells #[.slice none 0 0] 22)).alloc (.cells #[.func (.func 72) #[] #[.pointer (some ⟨w2.heap.size, 0, none⟩), .pointer (some ⟨w2.heap.size + 1, 0, none⟩), .pointer (some ⟨w2.heap.size + 1 + 1, 0, none⟩)]] 120)) p F w2.heap.size (w2.heap.size + 1) (w2.heap.size + 1 + 1) :=
      ⟨HF2.out.fr (Fr.below hb3 (fun _ => False)) (fun _ _ _ h => h.elim), b0, ⟨_, b1⟩, b2⟩
    generalize (((w2.alloc (.cells #[.pointer (some ⟨F, 0, none⟩)] 118)).alloc (.cells #[.slice none 0 0] 22)).alloc (.cells #[.func (.func 72) #[] #[.pointer (some ⟨w2.heap.size, 0, none⟩), .pointer (some ⟨w2.heap.size + 1, 0, none⟩), .pointer (some ⟨w2.heap.size + 1 + 1, 0, none⟩)]] 120)) = W3 at *
    have d3 : W3.cell? ⟨w.heap.size, 3, none⟩ = some (.slice ca p.nc cc) := (hb3.cell (p := ⟨w.heap.size, _, none⟩) (by show w.heap.size < _; omega)).trans hc3
    have HENV := Lib.hid henv
    have HB3 : Hid (Below w.heap.size w W3) := HB2.out.trans (hb3.mono (by omega))
    have HB1 := Lib.hid b1
    have hW3 : w2.heap.size + 3 ≤ W3.heap.size := by omega
    clear henv hb3 b0 b1 b2 hc3 hz
    go_step3
    go_wp2
    go_loopw [21] (fun i wr => ∃ k : Nat, k ≤ p.nc + 1 ∧ i = .int .i64 k ∧ lvS (fun m => lvF p.nc p.okOut m [] 0) (p.nc + 1 - 0) 0 = lvS (fun m => lvF p.nc p.okOut m [] 0) (p.nc + 1 - k) k ∧ LvEnv wr p F w2.heap.size (w2.heap.size + 1) (w2.heap.size + 1 + 1) ∧ wr.heap[w2.heap.size + 1]? = some (.cells #[.slice none 0 0] 22 (0, 0)) ∧ Below w.heap.size w wr ∧ w2.heap.size + 3 ≤ wr.heap.size) (fun i _ => p.nc + 1 - (intOf i).toNat)
    case atStart => exact ⟨0, Nat.zero_le _, rfl, rfl, HENV.out, HB1.out, HB3.out, hW3⟩
    case round =>
      obtain ⟨k, hk, rfl, hres, henv, hbd, hbl, hsz⟩ := hrel
      have HE := Lib.hid henv; have HBD := Lib.hid hbd; have HBL := Lib.hid hbl; have HRES := Lib.hid hres
      obtain ⟨_, _, _, e4⟩ := henv
      have c5 : wr.cell? ⟨w2.heap.size + 1 + 1, 0, none⟩ = some (.func (.func 72) #[] #[.pointer (some ⟨w2.heap.size, 0, none⟩), .pointer (some ⟨w2.heap.size + 1, 0, none⟩), .pointer (some ⟨w2.heap.size + 1 + 1, 0, none⟩)]) := cell_of_row _ _ 0 _ _ _ e4
      have c4 : wr.cell? ⟨w2.heap.size + 1, 0, none⟩ = some (.slice none 0 0) := cell_of_row _ _ 0 _ _ _ hbd
      clear hbd hbl hres e4
      by_cases hlt : k < p.nc + 1
      · have hst := HRES.out.trans (lvS_step hlt)
        have HST := Lib.hid hst; clear hst
        have hcall := lv_any p F w2.heap.size (w2.heap.size + 1) (w2.heap.size + 1 + 1) HF.out k 0 (.slice none 0 0) [] wr HE.out (IL.nil _) (by simp; omega) (fun h => absurd rfl h) (by omega)
        rw [show ((0 : Nat) : Int) = 0 from rfl] at hcall
        have HCALL := Lib.hid hcall; clear hcall
        have hfr : ∀ W2 : World, Fr (fun q => q = w2.heap.size + 1 ∨ (Value.slice none 0 0).ownBlock = some q) wr W2 → Below w.heap.size w W2 ∧ w2.heap.size + 3 ≤ W2.heap.size := fun W2 hf => ⟨HBL.out.trans (hf.low (by omega) (fun q hq e => by rcases e with e | e; omega; cases e)), Nat.le_trans hsz hf.size⟩
        have HFR := Lib.hid hfr; clear hfr
        cases hr : lvF p.nc p.okOut k [] 0 with
        | none =>
          have HR := Lib.hid hr; clear hr
          go_wp2_with (go_at_call 72; refine HCALL.out.mono ?_; rintro e W2 hp; obtain ⟨rfl, q1, q2, q3⟩ := lvPost_none HR.out hp; have HQ1 := Lib.hid (HFR.out W2 q2); have HQ2 := Lib.hid (q3.trans HBD.out); have HQ3 := Lib.hid (HE.out.fr q2 (IL.ex HE.out (IL.nil _)) ⟨_, q3.trans HBD.out⟩); clear q1 q2 q3 hp)
          go_roundw
          case rel => exact ⟨k + 1, by omega, by go_num, by have := HST.out; simp only [HR.out] at this; exact this, HQ3.out, HQ2.out, HQ1.out.1, HQ1.out.2⟩
          case measure => simp [intOf]; omega
        | some l =>
          have HR := Lib.hid hr; clear hr
          go_wp2_with (go_at_call 72; refine HCALL.out.mono ?_; rintro e W2 hp; obtain ⟨rfl, q1, q2, fv, q3, q4⟩ := lvPost_some HR.out hp; have HQ1 := Lib.hid (HFR.out W2 q2); have HQ2 := Lib.hid q4; obtain ⟨fa, fc, rfl⟩ := q4.ints.len; have c6 : W2.cell? ⟨w2.heap.size + 1, 0, none⟩ = some (.slice fa l.length fc) := cell_of_row _ _ 0 _ _ _ q3; clear q1 q2 q3 q4 hp)
          have HL : Hid (p.leave = l) := by
            have := HST.out; simp only [HR.out] at this; unfold Hid; rw [HLV.out, this]; rfl
          rw [Exit.noGoto_ret]
          go_ret2
          exact ⟨_, ret_err HF.out.symm, by rw [HL.out]; exact HQ2.out, HQ1.out.1⟩
      · obtain rfl : k = p.nc + 1 := by omega
        have HL : Hid (p.leave = []) := by
          unfold Hid; rw [HLV.out, HRES.out, Nat.sub_self]; rfl
        go_wp2
        rw [Exit.noGoto_ret]
        go_ret2
        exact ⟨_, ret_err HF.out.symm, by rw [HL.out]; exact IL.nil _, HBL.out⟩
  · have hlv : p.leave = [] := by unfold Pers.leave; rw [if_neg hf]
    rw [hlv]
    have hq : (p.fault != 0) = true := by simp [hf]
    clear hf hlv
    go_enter Try.func33, Try.ntmps33
    go_wp2
    go_step3
    go_wp2_with (go_at_call 42; refine (check_any _ p _ (HP.out.below (below_alloc _ _)) hn hc).mono ?_; rintro e w1 ⟨rfl, hb1⟩)
    rw [Exit.noGoto_ret]
    go_ret2
    exact ⟨_, rfl, IL.nil _, (below_alloc w _).trans (hb1.mono (by simp))⟩
end Go.Proofs.Ytagfcfojfjkmbaa

namespace Go.Proofs.Ytagfcfojfjkmbaa

/-- The chapter's person, with some more records. -/
def someP (l : List Rc) : Pers := ⟨0, 20000, 2, fun j => if j = 0 then ⟨0, 1, 0, 0⟩ else ⟨20, 5, 1, 1⟩, l.length + 1, fun j => (⟨10000, 1, 25⟩ :: l).getD j ⟨0, 0, 0⟩⟩

theorem ex_true : rngs (agesF 20 5 1 1 20 126) 121 = [(19, 23)] := by decide +kernel
def exA : List Rc := [⟨12000, 0, 30⟩]
def exB : List Rc := [⟨12000, 0, 30⟩, ⟨12000, 0, 40⟩]
theorem ex_faultA : (someP exA).fault = 0 := by decide +kernel
theorem ex_faultB : (someP exB).fault = 0 := by decide +kernel
theorem ex_daysA : (someP exA).days = [(686, 1050)] := by decide +kernel
theorem ex_bornA : (someP exA).born = [(686, 1050)] := by unfold Pers.born; rw [if_pos ex_faultA, ex_daysA]
theorem ex_bErrA : (someP exA).bErr = 0 := by unfold Pers.bErr; rw [ex_daysA, ex_faultA]; decide
theorem ex_onEA : (someP exA).onE 10950 = 0 := by unfold Pers.onE; rw [ex_bornA, if_pos ex_faultA]; decide
theorem ex_onA : (someP exA).on 10950 = [(27, 28)] := by unfold Pers.on; rw [if_pos ex_onEA, ex_bornA]; decide +kernel
theorem ex_heapE : heapE (fun j => [20, 25, 31, 40].getD j 0) 4 5 = 0 := by decide +kernel
theorem ex_heapR : heapR (fun j => [20, 25, 31, 40].getD j 0) 4 5 = 3750 := by decide +kernel
theorem ex_leaveB : (someP exB).leave = [2] := by unfold Pers.leave; rw [if_pos ex_faultB]; decide +kernel
end Go.Proofs.Ytagfcfojfjkmbaa

namespace Go.Proofs.Ytagfcfojfjkmbaa
open Go.RowKit Go.Shelf

set_option maxHeartbeats 1000000 in
theorem between_any (lo hi : Int) (w : World) : Calls Try.prog 41 #[.int .i64 lo, .int .i64 hi] w fun e w' => e = .returned (.agg #[.int .i64 lo, .int .i64 hi]) ∧ Below w.heap.size w w' := by
  go_enter Try.func41, Try.ntmps41
  go_wp2
  exact bodyPost_ret (v := .agg #[.int .i64 lo, .int .i64 hi]) (by simp [results, Try.results41, go_sem]) rfl ⟨rfl, below_alloc _ _⟩

set_option maxHeartbeats 1000000 in
theorem rules_any (w : World) : Calls Try.prog 60 #[] w fun e w' => e = .returned (.slice (some ⟨w.heap.size, 0, none⟩) 2 2) ∧ w' = w.alloc (.cells #[.int .i64 0, .int .i64 1, .int .i64 0, .int .i64 0, .int .i64 20, .int .i64 5, .int .i64 1, .int .i64 1] 80) := by
  go_enter Try.func60, Try.ntmps60
  go_wp2
  go_ret
  exact ⟨rfl, rfl⟩

def flatC (l : List Rc) : List Value := l.flatMap fun c => [.int .i64 c.day, .int .i64 c.rule, .int .i64 c.num]
theorem flatC_length (l : List Rc) : (flatC l).length = l.length * 3 := by
  induction l with
  | nil => rfl
  | cons x l ih => simp only [flatC, List.flatMap_cons, List.length_append] at ih ⊢; rw [ih]; simp; omega
theorem flatC_get (l : List Rc) (k : Nat) (hk : k < l.length) : (flatC l)[k * 3]? = some (.int .i64 l[k].day) ∧ (flatC l)[k * 3 + 1]? = some (.int .i64 l[k].rule) ∧ (flatC l)[k * 3 + 2]? = some (.int .i64 l[k].num) := by
  induction l generalizing k with
  | nil => simp at hk
  | cons x l ih =>
    cases k with
    | zero => exact ⟨rfl, rfl, rfl⟩
    | succ k =>
      have := ih k (by simpa using hk)
      have e : ∀ j, (flatC (x :: l))[(k + 1) * 3 + j]? = (flatC l)[k * 3 + j]? := fun j => by rw [show (k + 1) * 3 + j = (k * 3 + j) + 1 + 1 + 1 from by omega]; rfl
      exact ⟨(e 0).trans this.1, (e 1).trans this.2.1, (e 2).trans this.2.2⟩
def flatL (l : List Rl) : List Value := l.flatMap fun c => [.int .i64 c.f, .int .i64 c.b, .int .i64 c.m, .int .i64 c.e]
theorem flatL_length (l : List Rl) : (flatL l).length = l.length * 4 := by
  induction l with
  | nil => rfl
  | cons x l ih => simp only [flatL, List.flatMap_cons, List.length_append] at ih ⊢; rw [ih]; simp; omega
theorem flatL_get (l : List Rl) (k : Nat) (hk : k < l.length) : (flatL l)[k * 4]? = some (.int .i64 l[k].f) ∧ (flatL l)[k * 4 + 1]? = some (.int .i64 l[k].b) ∧ (flatL l)[k * 4 + 2]? = some (.int .i64 l[k].m) ∧ (flatL l)[k * 4 + 3]? = some (.int .i64 l[k].e) := by
  induction l generalizing k with
  | nil => simp at hk
  | cons x l ih =>
    cases k with
    | zero => exact ⟨rfl, rfl, rfl, rfl⟩
    | succ k =>
      have := ih k (by simpa using hk)
      have e : ∀ j, (flatL (x :: l))[(k + 1) * 4 + j]? = (flatL l)[k * 4 + j]? := fun j => by rw [show (k + 1) * 4 + j = (k * 4 + j) + 1 + 1 + 1 + 1 from by omega]; rfl
      exact ⟨(e 0).trans this.1, (e 1).trans this.2.1, (e 2).trans this.2.2.1, (e 3).trans this.2.2.2⟩
/-- A slice of records (of rules) of one's own. -/
def CL (W : World) (v : Value) (l : List Rc) : Prop := W.ownsRow 0 109 3 v l.length (flatC l)
def LL (W : World) (v : Value) (l : List Rl) : Prop := W.ownsRow 0 80 4 v l.length (flatL l)
theorem CL.at {W : World} {v : Value} {l : List Rc} (h : CL W v l) : RcsAt W v l.length (fun j => l.getD j ⟨0, 0, 0⟩) := by
  have h0 := h
  rcases h.2 with ⟨rfl, hl⟩ | ⟨g, cap, cur, rfl, _, hc, _⟩
  · exact .inl ⟨rfl, hl⟩
  · refine .inr ⟨g, 0, cap, rfl, (Array.getElem?_eq_some_iff.1 hc).1, fun j hj => ?_⟩
    have hf := flatC_get l j hj
    have hl := flatC_length l
    unfold CL at h0
    simp only [Nat.zero_add, show l.getD j ⟨0, 0, 0⟩ = l[j] from by simp [hj]]
    rw [h0.cellAt _ (by omega), h0.cellAt _ (by omega), h0.cellAt _ (by omega)]
    exact hf
theorem LL.at {W : World} {v : Value} {l : List Rl} (h : LL W v l) : RlsAt W v l.length (fun j => l.getD j ⟨0, 0, 0, 0⟩) := by
  have h0 := h
  rcases h.2 with ⟨rfl, hl⟩ | ⟨g, cap, cur, rfl, _, hc, _⟩
  · exact .inl ⟨rfl, hl⟩
  · refine .inr ⟨g, 0, cap, rfl, (Array.getElem?_eq_some_iff.1 hc).1, fun j hj => ?_⟩
    have hf := flatL_get l j hj
    have hl := flatL_length l
    unfold LL at h0
    simp only [Nat.zero_add, show l.getD j ⟨0, 0, 0, 0⟩ = l[j] from by simp [hj]]
    rw [h0.cellAt _ (by omega), h0.cellAt _ (by omega), h0.cellAt _ (by omega), h0.cellAt _ (by omega)]
    exact hf
theorem Try.infoRecord : (Try.prog.info? 109).map (fun i => (i.zero, i.size, i.bytes)) = some (some (.agg #[.int .i64 0, .int .i64 0, .int .i64 0]), 3, 24) := by kernel_rfl
theorem Try.infoRule : (Try.prog.info? 80).map (fun i => (i.zero, i.size, i.bytes)) = some (some (.agg #[.int .i64 0, .int .i64 0, .int .i64 0, .int .i64 0]), 4, 32) := by kernel_rfl

theorem flatC_one (l : List Rc) : ∀ u ∈ flatC l, u.oneCell' = true := by
  intro u hu
  simp only [flatC, List.mem_flatMap] at hu
  obtain ⟨c, _, hc⟩ := hu
  simp at hc
  rcases hc with rfl | rfl | rfl <;> rfl

set_option maxRecDepth 100000 in
set_option maxHeartbeats 2000000 in
theorem somebody_any (B n : Nat) (l : List Rc) (w : World) (hn : l.length = n) (h0 : 0 < n) (h1 : n ≤ 100) (hB : w.heap[B]? = some (.cells (flatC l).toArray 109 (0, 0))) :
    Calls Try.prog 61 #[.slice (some ⟨B, 0, none⟩) n n] w fun e w' => ∃ v, e = .returned v ∧ PersAt w' v (someP l) ∧ Below w.heap.size w w' := by
  obtain ⟨i0, hi0, hz0, hz1, hz2⟩ := info_parts Try.infoRecord
  have HN := Lib.hid hn; have HBB := Lib.hid hB
  have hBs := (Array.getElem?_eq_some_iff.1 hB).1
  clear hn hB
  go_enter Try.func61, Try.ntmps61
  go_wp2_with (first
    | (go_at_call 41; refine (between_any _ _ _).mono ?_; rintro e w1 ⟨rfl, hb1⟩)
    | (go_at_call 60; refine (rules_any _).mono ?_; rintro e w2 ⟨rfl, rfl⟩)
    | (at_builtin; refine wpList_append_own _ rfl _ _ 43 rfl 0 109 i0 (.agg #[.int .i64 0, .int .i64 0, .int .i64 0]) 3 24 Try.underlying43 hi0 hz0 hz1 hz2 rfl (by decide) (.slice (some ⟨w1.heap.size + 1, 0, none⟩) 1 1) 1 [.int .i64 10000, .int .i64 1, .int .i64 25] rfl ?own ⟨B, 0, none⟩ n n (flatC l) rfl ?len ?c1 ?c2 ?c3 ?c4 ?c5 ?_))
  case own =>
    refine ⟨rfl, .inr ⟨w1.heap.size + 1, 1, #[.int .i64 10000, .int .i64 1, .int .i64 25], rfl, Nat.zero_le _, ?_, Nat.le_refl _, by unfold maxLen; omega, rfl, rfl⟩⟩
    have := heap_alloc_new (w1.alloc (.cells #[.int .i64 0, .int .i64 1, .int .i64 0, .int .i64 0, .int .i64 20, .int .i64 5, .int .i64 1, .int .i64 1] 80)) (.cells #[.int .i64 10000, .int .i64 1, .int .i64 25] 109)
    rw [World.size_alloc] at this; exact this
  case len => rw [flatC_length, HN.out]
  case c1 =>
    have hb := hb1.size
    simp only [World.size_alloc] at hb
    have e : ((w1.alloc (.cells #[.int .i64 0, .int .i64 1, .int .i64 0, .int .i64 0, .int .i64 20, .int .i64 5, .int .i64 1, .int .i64 1] 80)).alloc (.cells #[.int .i64 10000, .int .i64 1, .int .i64 25] 109)).heap[B]? = some (.cells (flatC l).toArray 109 (0, 0)) := by
      rw [Below.heap_alloc _ _ _ (by simp; omega), Below.heap_alloc _ _ _ (by omega), hb1.block _ (by simp; omega), Below.heap_alloc _ _ _ hBs]; exact HBB.out
    exact World.news_of_block e
  case c2 => exact flatC_one l
  case c3 => unfold maxLen; omega
  case c4 => omega
  case c5 => omega
  intro v' w3 h3 h4 _
  have hs1 := hb1.size
  simp only [World.size_alloc] at hs1
  have hblk : w3.heap[w.heap.size]? = some (.cells #[.int .i64 0, .int .i64 0, .slice none 0 0, .slice none 0 0] 45 (0, 0)) := by
    rw [h4.block _ (by simp; omega) (fun e => absurd (show w.heap.size = w1.heap.size + 1 from Option.some.inj e) (by omega)), Below.heap_alloc _ _ _ (by simp; omega), Below.heap_alloc _ _ _ (by omega), hb1.block _ (by simp)]
    exact heap_alloc_new w _
  have hrul : w3.heap[w1.heap.size]? = some (.cells #[.int .i64 0, .int .i64 1, .int .i64 0, .int .i64 0, .int .i64 20, .int .i64 5, .int .i64 1, .int .i64 1] 80 (0, 0)) := by
    rw [h4.block _ (by simp; omega) (fun e => absurd (show w1.heap.size = w1.heap.size + 1 from Option.some.inj e) (by omega)), Below.heap_alloc _ _ _ (by simp)]
    exact heap_alloc_new w1 _
  have hbel : Below w.heap.size w w3 := (((below_alloc w _).trans (hb1.mono (by simp))).trans (((below_alloc w1 _).alloc (by simp) _).mono (by omega))).grown h4 (by simp; omega) (fun k hk => by have e : w1.heap.size + 1 = k := Option.some.inj hk; omega)
  have hcl : CL w3 v' (⟨10000, 1, 25⟩ :: l) := by
    unfold CL; rw [show (⟨10000, 1, 25⟩ :: l : List Rc).length = 1 + n from by simp [HN.out]; omega]; exact h3
  obtain ⟨va, vc, rfl⟩ := hcl.at.slice
  have HCL := Lib.hid hcl; have HRUL := Lib.hid hrul; have HBEL := Lib.hid hbel; have HBLK := Lib.hid hblk
  have k0 : w3.cell? ⟨w.heap.size, 0, none⟩ = some (.int .i64 0) := cell_of_row _ _ 0 _ _ _ hblk
  have k1 : w3.cell? ⟨w.heap.size, 1, none⟩ = some (.int .i64 0) := cell_of_row _ _ 1 _ _ _ hblk
  have k2 : w3.cell? ⟨w.heap.size, 2, none⟩ = some (.slice none 0 0) := cell_of_row _ _ 2 _ _ _ hblk
  have k3 : w3.cell? ⟨w.heap.size, 3, none⟩ = some (.slice none 0 0) := cell_of_row _ _ 3 _ _ _ hblk
  have q0 : w3.frozen? ⟨w.heap.size, 0, none⟩ = false := frozen_of_row _ _ 0 _ _ hblk
  have q1 : w3.frozen? ⟨w.heap.size, 1, none⟩ = false := frozen_of_row _ _ 1 _ _ hblk
  have q2 : w3.frozen? ⟨w.heap.size, 2, none⟩ = false := frozen_of_row _ _ 2 _ _ hblk
  have q3 : w3.frozen? ⟨w.heap.size, 3, none⟩ = false := frozen_of_row _ _ 3 _ _ hblk
  clear h3 h4 hcl hrul hbel hblk hb1
  have hfr : ∀ (a b c d : Value), Fr (fun q => q = w.heap.size) w3 ((((w3.setCell ⟨w.heap.size, 0, none⟩ a).setCell ⟨w.heap.size, 1, none⟩ b).setCell ⟨w.heap.size, 2, none⟩ c).setCell ⟨w.heap.size, 3, none⟩ d) := fun a b c d => (((Fr.set _ _ _ _).trans (Fr.set _ _ _ _)).trans (Fr.set _ _ _ _)).trans (Fr.set _ _ _ _)
  have HFR := Lib.hid hfr; clear hfr
  go_wp2
  refine bodyPost_ret (v := .agg #[.int .i64 0, .int .i64 20000, .slice (some ⟨w1.heap.size, 0, none⟩) 2 2, .slice va (l.length + 1) vc]) (by simp [results, Try.results61, go_sem, k0, k1, k2, k3]) rfl ⟨_, rfl, ⟨_, _, rfl, ?_, ?_⟩, ?_⟩
  · refine .inr ⟨w1.heap.size, 0, 2, rfl, Nat.lt_of_lt_of_le (Array.getElem?_eq_some_iff.1 HRUL.out).1 (HFR.out _ _ _ _).size, fun j hj => ?_⟩
    have hb := ((HFR.out (.int .i64 0) (.int .i64 20000) (.slice (some ⟨w1.heap.size, 0, none⟩) 2 2) (.slice va (l.length + 1) vc)).block _ (Array.getElem?_eq_some_iff.1 HRUL.out).1 (by omega)).trans HRUL.out
    match j, hj with
    | 0, _ => exact ⟨cell_of_row _ _ 0 _ _ _ hb, cell_of_row _ _ 1 _ _ _ hb, cell_of_row _ _ 2 _ _ _ hb, cell_of_row _ _ 3 _ _ _ hb⟩
    | 1, _ => exact ⟨cell_of_row _ _ 4 _ _ _ hb, cell_of_row _ _ 5 _ _ _ hb, cell_of_row _ _ 6 _ _ _ hb, cell_of_row _ _ 7 _ _ _ hb⟩
    | j + 2, h => exact absurd (show j + 2 < 2 from h) (by omega)
  · exact CL.at (own_fr HCL.out (HFR.out _ _ _ _) (fun g cur _ _ hg e => by subst e; rw [HBLK.out] at hg; injection hg with e; injection e with _ e2; exact absurd e2 (by decide)))
  · exact HBEL.out.trans ((HFR.out _ _ _ _).low HBEL.out.size (fun q hq e => by omega))
end Go.Proofs.Ytagfcfojfjkmbaa

namespace Go.Proofs.Ytagfcfojfjkmbaa
open Go.RowKit Go.Shelf

def eqL (n m : Nat) (x y : Nat → Int) : Bool := (n == m) && allB (fun j => x j == y j) n

set_option maxRecDepth 100000 in
set_option maxHeartbeats 2000000 in
theorem ints_any (va vb : Value) (n m : Nat) (x y : Nat → Int) (w : World) (ha : IntsAt w va n x) (hb : IntsAt w vb m y) (hn : n ≤ 100000) (hm : m ≤ 100000) :
    Calls Try.prog 34 #[va, vb] w fun e w' => e = .returned (.bool (eqL n m x y)) ∧ Below w.heap.size w w' := by
  obtain ⟨a, ca, rfl⟩ := ha.len
  obtain ⟨b, cb, rfl⟩ := hb.len
  have HA := Lib.hid ha; have HB := Lib.hid hb; clear ha hb
  by_cases hnm : n = m
  · subst hnm
    have HEQ : Hid (eqL n n x y = allB (fun j => x j == y j) n) := by unfold Hid eqL; simp
    have hne : ((n : Int) != (n : Int)) = false := by simp
    go_enter Try.func34, Try.ntmps34
    go_wp2
    go_loopw [5] (fun i wr => ∃ k : Nat, k ≤ n ∧ i = .int .i64 k ∧ (∀ q, q < k → (x q == y q) = true) ∧ Below w.heap.size w wr) (fun i _ => n - (intOf i).toNat)
    case atStart => exact ⟨0, Nat.zero_le _, rfl, fun q h => absurd h (Nat.not_lt_zero _), Below.refl _ _⟩
    case round =>
      obtain ⟨k, hk, rfl, hall, hbl⟩ := hrel
      have HALL := Lib.hid hall; have HBL := Lib.hid hbl; clear hall hbl
      by_cases hlt : k < n
      · obtain ⟨ba, oa, rfl, hba, ka⟩ : ∃ ba oa, a = some ⟨ba, oa, none⟩ ∧ ba < w.heap.size ∧ w.cell? ⟨ba, oa + k, none⟩ = some (.int .i64 (x k)) := by
          rcases HA.out with ⟨_, h⟩ | ⟨b', o', c', e, hb, hz⟩
          · omega
          · cases e; exact ⟨b', o', rfl, hb, hz k hlt⟩
        obtain ⟨bb, ob, rfl, hbb, kb⟩ : ∃ ba oa, b = some ⟨ba, oa, none⟩ ∧ ba < w.heap.size ∧ w.cell? ⟨ba, oa + k, none⟩ = some (.int .i64 (y k)) := by
          rcases HB.out with ⟨_, h⟩ | ⟨b', o', c', e, hb, hz⟩
          · omega
          · cases e; exact ⟨b', o', rfl, hb, hz k hlt⟩
        have xa : wr.cell? ⟨ba, oa + k, none⟩ = some (.int .i64 (x k)) := (HBL.out.cell (p := ⟨ba, _, none⟩) hba).trans ka
        have xb : wr.cell? ⟨bb, ob + k, none⟩ = some (.int .i64 (y k)) := (HBL.out.cell (p := ⟨bb, _, none⟩) hbb).trans kb
        have ki : (0 : Int) ≤ (k : Int) := by omega
        have kj : (k : Int) < (n : Int) := by omega
        clear ka kb
        cases hxy : (x k == y k)
        · have hxn : (x k != y k) = true := by simp only [bne, hxy]; rfl
          go_wp2
          go_quiet (fail)
          go_wp2
          go_ret
          exact ⟨ret_bool (by rw [HEQ.out, allB_false hlt hxy]), HBL.out.trans (below_drewS _ _ _)⟩
        · have hxn : (x k != y k) = false := by simp only [bne, hxy]; rfl
          go_wp2
          go_quiet (fail)
          go_wp2
          go_roundw
          case rel => exact ⟨k + 1, by omega, by go_num, (fun q hq => by rcases Nat.lt_succ_iff_lt_or_eq.1 hq with h | rfl; exact HALL.out q h; exact hxy), HBL.out.trans (below_drewS _ _ _)⟩
          case measure => simp [intOf]; omega
      · obtain rfl : k = n := by omega
        go_wp2
        go_ret
        exact ⟨ret_bool (by rw [HEQ.out, allB_true HALL.out]), HBL.out⟩
  · have HEQ : Hid (eqL n m x y = false) := by unfold Hid eqL; simp [hnm]
    have hne : ((n : Int) != (m : Int)) = true := by simp; omega
    clear hnm
    go_enter Try.func34, Try.ntmps34
    go_wp2
    go_ret
    exact ⟨ret_bool HEQ.out.symm, Below.refl _ _⟩

theorem ints_one (W : World) (x : Int) : IntsAt (W.alloc (.cells #[.int .i64 x] 3)) (.slice (some ⟨W.heap.size, 0, none⟩) 1 1) 1 (fun j => [x].getD j 0) := by
  refine .inr ⟨W.heap.size, 0, 1, rfl, by simp, fun j hj => ?_⟩
  obtain rfl : j = 0 := by omega
  exact cell_of_row _ _ 0 _ _ _ (heap_alloc_new W _)
theorem below_step {A X Y : World} (h : Below A.heap.size A X) (k : Below X.heap.size X Y) : Below A.heap.size A Y := h.trans (k.mono h.size)
theorem kept {A X : World} {b o : Nat} {v : Value} (h : Below A.heap.size A X) (hb : b < A.heap.size) (hc : A.cell? ⟨b, o, none⟩ = some v) : X.cell? ⟨b, o, none⟩ = some v := (h.cell (p := ⟨b, o, none⟩) hb).trans hc

attribute [local go_sem ↓] Go.wp_at_zero Go.wp_at_succ
set_option maxRecDepth 100000 in
set_option maxHeartbeats 4000000 in
theorem awake_any (w : World) : Calls Try.prog 20 #[] w fun e w' => e = .returned (.bool true) ∧ Below w.heap.size w w' := by
  have htrue := fun W => true_ok 20 5 1 1 20 W (by decide) (by decide)
  rw [ex_true] at htrue
  unfold ruleV at htrue
  have HT := Lib.hid htrue; clear htrue
  go_enter Try.func20, Try.ntmps20
  go_wp2_with fail
  refine (rules_any _).mono ?_
  rintro e w1 ⟨rfl, rfl⟩
  go_wp2_with fail
  refine (HT.out _).mono ?_
  rintro e w2 ⟨v2, rfl, hr2, hb2⟩
  obtain ⟨g2, o2, c2, rfl, _, hg2, x21, x22, _⟩ := hr2.rg.cons
  have HB2 : Hid (Below w.heap.size w w2) := (below_alloc w _).trans (hb2.mono (by simp))
  clear hr2 hb2
  have X21 := Lib.hid x21; have X22 := Lib.hid x22; clear x21 x22
  go_wp2_with fail
  refine (somebody_any w2.heap.size 1 exA _ rfl (by omega) (by omega) (heap_alloc_new w2 _)).mono ?_
  rintro e w3 ⟨v3, rfl, hp3, hb3⟩
  have HB3 : Hid (Below w2.heap.size w2 w3) := below_step (below_alloc _ _) hb3
  clear hb3
  go_wp2_with fail
  refine (Births_any _ (someP exA) _ hp3 (by decide) (by decide)).mono ?_
  rw [ex_bornA, ex_bErrA]
  rintro e w4 ⟨v4, rfl, hr4, hb4⟩
  obtain ⟨g4, o4, c4, rfl, _, hg4, x41, x42, _⟩ := hr4.rg.cons
  have HB4 : Hid (Below w2.heap.size w2 w4) := below_step HB3.out hb4
  have X41 := Lib.hid x41; have X42 := Lib.hid x42
  clear hr4 hb4 hp3 x41 x42
  go_wp2_with fail
  refine (somebody_any w4.heap.size 1 exA _ rfl (by omega) (by omega) (heap_alloc_new w4 _)).mono ?_
  rintro e w5 ⟨v5, rfl, hp5, hb5⟩
  have HB5 : Hid (Below w4.heap.size w4 w5) := below_step (below_alloc _ _) hb5
  clear hb5
  go_wp2_with fail
  refine (on_any _ (someP exA) _ _ hp5 (by decide) (by decide)).mono ?_
  rw [ex_onA, ex_onEA]
  rintro e w6 ⟨v6, rfl, hr6, hb6⟩
  obtain ⟨g6, o6, c6, rfl, _, hg6, x61, x62, _⟩ := hr6.rg.cons
  have HB6 : Hid (Below w4.heap.size w4 w6) := below_step HB5.out hb6
  have X61 := Lib.hid x61; have X62 := Lib.hid x62
  clear hr6 hb6 hp5 x61 x62
  go_wp2_with fail
  refine (somebody_any w6.heap.size 2 exB _ rfl (by omega) (by omega) (heap_alloc_new w6 _)).mono ?_
  rintro e w7 ⟨v7, rfl, hp7, hb7⟩
  have HB7 : Hid (Below w6.heap.size w6 w7) := below_step (below_alloc _ _) hb7
  clear hb7
  go_wp2_with fail
  refine (leave_any _ (someP exB) _ hp7 (by decide) (by decide)).mono ?_
  rw [ex_leaveB, ex_faultB]
  rintro e w8 ⟨v8, rfl, hi8, hb8⟩
  have HB8 : Hid (Below w6.heap.size w6 w8) := below_step HB7.out hb8
  have HI8 := Lib.hid hi8
  obtain ⟨a8, c8, rfl⟩ := hi8.ints.len
  clear hi8 hb8 hp7
  go_wp2_with fail
  refine (heaping_any _ 4 (fun j => [20, 25, 31, 40].getD j 0) 5 _ (.inr ⟨w8.heap.size, 0, 4, rfl, by simp, fun j hj => ?_⟩) (by omega)).mono ?_
  · match j, hj with
    | 0, _ => exact cell_of_row _ _ 0 _ _ _ (heap_alloc_new w8 _)
    | 1, _ => exact cell_of_row _ _ 1 _ _ _ (heap_alloc_new w8 _)
    | 2, _ => exact cell_of_row _ _ 2 _ _ _ (heap_alloc_new w8 _)
    | 3, _ => exact cell_of_row _ _ 3 _ _ _ (heap_alloc_new w8 _)
    | j + 4, h => omega
  rw [ex_heapE, ex_heapR]
  rintro e w9 ⟨rfl, hb9⟩
  have hb89 : Below w8.heap.size w8 w9 := below_step (below_alloc _ _) hb9
  have b69 : Below w6.heap.size w6 w9 := below_step HB8.out hb89
  have b49 : Below w4.heap.size w4 w9 := below_step HB6.out b69
  have b29 : Below w2.heap.size w2 w9 := below_step HB4.out b49
  have HW : Hid (Below w.heap.size w w9) := below_step HB2.out b29
  have s2 := b29.size; have s4 := b49.size; have s6 := b69.size
  have y1 := kept b29 hg2 X21.out; have y2 := kept b29 hg2 X22.out
  have y3 := kept b49 hg4 X41.out; have y4 := kept b49 hg4 X42.out
  have y5 := kept b69 hg6 X61.out; have y6 := kept b69 hg6 X62.out
  have HI9 := Lib.hid (HI8.out.below hb89)
  have HSB : Hid (∀ X : World, Below w9.heap.size w9 X → X.cell? ⟨g2, o2, none⟩ = some (.int .i64 19) ∧ X.cell? ⟨g2, o2 + 1, none⟩ = some (.int .i64 23) ∧ X.cell? ⟨g4, o4, none⟩ = some (.int .i64 686) ∧ X.cell? ⟨g4, o4 + 1, none⟩ = some (.int .i64 1050) ∧ X.cell? ⟨g6, o6, none⟩ = some (.int .i64 27) ∧ X.cell? ⟨g6, o6 + 1, none⟩ = some (.int .i64 28) ∧ Below w9.heap.size w9 X) :=
    fun X hX => ⟨kept hX (by omega) y1, kept hX (by omega) y2, kept hX (by omega) y3, kept hX (by omega) y4, kept hX (by omega) y5, kept hX (by omega) y6, hX⟩
  clear hb89 b69 b49 b29 s2 s4 s6 y1 y2 y3 y4 y5 y6 hb9
  have q1 : ∀ W : World, (binOp .eql 41 (.agg #[.int .i64 19, .int .i64 23]) (.agg #[.int .i64 19, .int .i64 23])).run Try.prog W = .ok (.bool true) W := fun _ => by kernel_rfl
  have q2 : ∀ W : World, (binOp .eql 41 (.agg #[.int .i64 686, .int .i64 1050]) (.agg #[.int .i64 686, .int .i64 1050])).run Try.prog W = .ok (.bool true) W := fun _ => by kernel_rfl
  have q3 : ∀ W : World, (binOp .eql 41 (.agg #[.int .i64 27, .int .i64 28]) (.agg #[.int .i64 27, .int .i64 28])).run Try.prog W = .ok (.bool true) W := fun _ => by kernel_rfl
  go_wp2_with fail
  go_region_held3 (fun X => X.cell? ⟨g2, o2, none⟩ = some (.int .i64 19) ∧ X.cell? ⟨g2, o2 + 1, none⟩ = some (.int .i64 23) ∧ X.cell? ⟨g4, o4, none⟩ = some (.int .i64 686) ∧ X.cell? ⟨g4, o4 + 1, none⟩ = some (.int .i64 1050) ∧ X.cell? ⟨g6, o6, none⟩ = some (.int .i64 27) ∧ X.cell? ⟨g6, o6 + 1, none⟩ = some (.int .i64 28) ∧ Below w9.heap.size w9 X)
    (first | exact HSB.out _ ((Below.refl _ _).drew) | (go_split_ands; refine HSB.out _ (below_step ?_ (below_alloc _ _)); assumption) | (go_split_ands; refine HSB.out _ (below_step ?_ hbX); assumption))
    (first
      | (go_at_call 41; refine (between_any _ _ _).mono ?_; rintro e wX ⟨rfl, hbX⟩)
      | (go_at_call 34; go_split_ands; refine (ints_any _ _ 1 1 (fun j => [2].getD j 0) (fun j => [2].getD j 0) _ ?_ ?_ (by omega) (by omega)).mono ?_; (refine IL.ints (IL.below HI9.out ?_); assumption); exact ints_one _ _; rintro e wX ⟨rfl, hbX⟩))
  all_goals
    go_wp2
    go_ret
    go_split_ands
    refine ⟨ret_bool (by decide), HW.out.trans (Below.mono ‹Below w9.heap.size w9 _› HW.out.size)⟩
end Go.Proofs.Ytagfcfojfjkmbaa
