/- On whole; Clone; what Leave looks for. -/
import Derived.Test.YtagfcfojfjkmbaaC5
import Derived.Lib.SliceRun
namespace Go.Proofs.Ytagfcfojfjkmbaa
open Go.RowKit Go.Shelf

theorem on_any (v : Value) (p : Pers) (day : Int) (w : World) (h : PersAt w v p) (hn : p.nr ≤ 100000) (hc : p.nc ≤ 100000) :
    Calls Try.prog 26 #[v, .int .i64 day] w (GivesE w w.heap.size (p.on day) (p.onE day)) := by
  by_cases hE : p.onE day = 0
  · have e : p.on day = onL day (yearsL p.born) := by unfold Pers.on; rw [if_pos hE]
    rw [e, hE]
    unfold Pers.onE at hE
    by_cases hf : p.fault = 0
    · rw [if_pos hf] at hE
      cases hd : inB day (-50000) 50000
      · rw [hd] at hE; simp at hE
      · rw [hd] at hE
        cases hb : p.born with
        | nil => rw [hb] at hE; simp at hE
        | cons r l =>
          rw [hb] at hE
          by_cases hr : day < r.1
          · simp [hr] at hE
          · rw [← hb]; exact on_good v p day r l w h hn hc hf hd hb hr
    · rw [if_neg hf] at hE; exact absurd hE hf
  · have e : p.on day = [] := by unfold Pers.on; rw [if_neg hE]
    rw [e]
    exact on_bad v p day w h hn hc hE

def intsV (l : List Int) : List Value := l.map (Value.int .i64)
/-- A slice of ints of one's own. -/
def IL (W : World) (v : Value) (l : List Int) : Prop := W.ownsRow 0 3 1 v l.length (intsV l)
theorem Try.infoInt : (Try.prog.info? 3).map (fun i => (i.zero, i.size, i.bytes)) = some (some (.int .i64 0), 1, 8) := by kernel_rfl
theorem IL.nil (W : World) : IL W (.slice none 0 0) [] := World.ownsRow_nil _ _ _ _
theorem intsV_get (l : List Int) (j : Nat) : (intsV l)[j]? = (l[j]?).map (Value.int .i64) := by simp [intsV]
theorem IL.cell {W : World} {g cap : Nat} {l : List Int} (h : IL W (.slice (some ⟨g, 0, none⟩) l.length cap) l) (j : Nat) (hj : j < l.length) : W.cell? ⟨g, j, none⟩ = some (.int .i64 l[j]) := by
  have := World.ownsRow.cellAt h j (by simp; omega)
  rw [this, intsV_get]; simp [hj]
theorem IL.form {W : World} {v : Value} {l : List Int} (h : IL W v l) : (v = .slice none 0 0 ∧ l = []) ∨ ∃ g cap, v = .slice (some ⟨g, 0, none⟩) l.length cap ∧ g < W.heap.size := by
  rcases h.2 with ⟨rfl, h0⟩ | ⟨g, cap, cur, rfl, _, hc, _⟩
  · exact .inl ⟨rfl, List.eq_nil_of_length_eq_zero h0⟩
  · exact .inr ⟨g, cap, rfl, (Array.getElem?_eq_some_iff.1 hc).1⟩
theorem IL.ints {W : World} {v : Value} {l : List Int} (h : IL W v l) : IntsAt W v l.length (fun j => l.getD j 0) := by
  rcases h.form with ⟨rfl, rfl⟩ | ⟨g, cap, rfl, hg⟩
  · exact .inl ⟨rfl, rfl⟩
  · refine .inr ⟨g, 0, cap, rfl, hg, fun j hj => ?_⟩
    rw [Nat.zero_add, h.cell j hj]; simp [hj]
theorem IL.below {W W' : World} {v : Value} {l : List Int} (h : IL W v l) (hb : Below W.heap.size W W') : IL W' v l := own_fr h (Fr.below hb (fun _ => False)) (fun _ _ _ _ _ h => h)

set_option maxRecDepth 100000 in
set_option maxHeartbeats 2000000 in
theorem clone_nil (w : World) :
    Calls Try.prog 74 #[.slice none 0 0] w fun e w' => e = .returned (.slice none 0 0) ∧ w = w' := by
  have hnil : ∀ W : World, (binOp .eql 22 (.slice none 0 0) (.slice none 0 0)).run Try.prog W = .ok (.bool true) W := fun W => Lib.run_eql_slice_nil W 22 3 none 0 0 0 0 Try.underlying22
  go_enter Try.func74, Try.ntmps74
  go_wp2
  go_ret
  exact ⟨rfl, rfl⟩
set_option maxRecDepth 100000 in
set_option maxHeartbeats 2000000 in
theorem clone_some (g n cap : Nat) (l : List Int) (w : World) (hn : l.length = n) (h0 : 0 < n) (hl : n ≤ 1000) (h : IL w (.slice (some ⟨g, 0, none⟩) l.length cap) l) :
    Calls Try.prog 74 #[.slice (some ⟨g, 0, none⟩) n cap] w fun e w' => ∃ v, e = .returned v ∧ IL w' v l ∧ Below w.heap.size w w' := by
  obtain ⟨i0, hi0, hz0, hz1, hz2⟩ := info_parts Try.infoInt
  have hcells : ∀ j u, (intsV l)[j]? = some u → w.cell? ((⟨g, 0, none⟩ : Addr).add j) = some u := fun j u hu => by
    have hadd : (⟨g, 0, none⟩ : Addr).add j = ⟨g, j, none⟩ := by unfold Addr.add; split <;> simp_all
    rw [hadd, World.ownsRow.cellAt h j (by have := (List.getElem?_eq_some_iff.1 hu).1; simp [intsV] at this ⊢; omega)]
    exact hu
  have HC := Lib.hid hcells; have HN := Lib.hid hn; have HH := Lib.hid h
  clear hcells hn h
  have hnil : ∀ W : World, (binOp .eql 22 (.slice (some ⟨g, 0, none⟩) n cap) (.slice none 0 0)).run Try.prog W = .ok (.bool false) W := fun W => Lib.run_eql_slice_nil W 22 3 (some ⟨g, 0, none⟩) n cap 0 0 Try.underlying22
  go_enter Try.func74, Try.ntmps74
  go_wp2_with (at_builtin; refine wpList_append_own _ rfl _ _ 22 rfl 0 3 i0 (.int .i64 0) 1 8 Try.underlying22 hi0 hz0 hz1 hz2 rfl (by decide) (.slice (some ⟨w.heap.size, 0, none⟩) 0 0) 0 [] rfl ⟨rfl, .inr ⟨w.heap.size, 0, #[], rfl, Nat.zero_le _, heap_alloc_new w _, Nat.le_refl _, Nat.zero_le _, rfl, rfl⟩⟩ ⟨g, 0, none⟩ n cap (intsV l) rfl ?len ?c1 ?c2 ?c3 ?c4 ?c5 ?_)
  case len => simp [intsV, HN.out]
  case c1 =>
    intro j u hu
    have hg : g < w.heap.size := by
      rcases HH.out.form with ⟨h, _⟩ | ⟨g', cap', e, hg⟩
      · cases h
      · cases e; exact hg
    have hadd : (⟨g, 0, none⟩ : Addr).add j = ⟨g, j, none⟩ := by unfold Addr.add; split <;> simp_all
    have := HC.out j u hu
    rw [hadd] at this ⊢
    rw [(below_alloc w _).cell (p := ⟨g, j, none⟩) hg]; exact this
  case c2 => intro u hu; simp [intsV] at hu; obtain ⟨x, _, rfl⟩ := hu; rfl
  case c3 => unfold maxLen; omega
  case c4 => omega
  case c5 => omega
  intro v' w1 h1 h2 _
  have HI : Hid (IL w1 v' l) := by
    unfold Hid IL; rw [HN.out]; simpa using h1
  have HB : Hid (Below w.heap.size w w1) := (below_alloc w _).grown h2 (by simp) (fun k hk => by cases hk; exact Nat.le_refl _)
  clear h1 h2
  go_wp2
  go_ret
  exact ⟨v', rfl, HI.out, HB.out⟩

theorem clone_any (v : Value) (l : List Int) (w : World) (h : IL w v l) (hl : l.length ≤ 1000) (hne : v ≠ .slice none 0 0 → 0 < l.length) :
    Calls Try.prog 74 #[v] w fun e w' => ∃ v, e = .returned v ∧ IL w' v l ∧ Below w.heap.size w w' := by
  rcases h.form with ⟨rfl, rfl⟩ | ⟨g, cap, rfl, hg⟩
  · refine (clone_nil w).mono ?_
    rintro e w' ⟨rfl, rfl⟩
    exact ⟨_, rfl, IL.nil _, Below.refl _ _⟩
  · exact clone_some g _ cap l w rfl (hne (fun e => by cases e)) hl h

/-- The first list of records, from some on, without which the others leave a day. -/
def lvL (step : List Int → Nat → Option (List Int)) (nc : Nat) (out : List Int) : Nat → Option (List Int)
  | 0 => none
  | k + 1 => match step (out ++ [((nc - (k + 1) : Nat) : Int)]) (nc - (k + 1) + 1) with
    | some l => some l
    | none => lvL step nc out k
def lvF (nc : Nat) (ok : List Int → Bool) : Nat → List Int → Nat → Option (List Int)
  | 0, out, _ => if ok out then some out else none
  | m + 1, out, next => lvL (lvF nc ok m) nc out (nc - next)
def Pers.okOut (p : Pers) (out : List Int) : Bool := !(daysL p (inL (fun j => out.getD j 0) out.length) p.nc).isEmpty

/-- What stands around the search. -/
def LvEnv (W : World) (p : Pers) (F Bf Bd Bv : Nat) : Prop :=
  FileAt W F p ∧ W.heap[Bf]? = some (.cells #[.pointer (some ⟨F, 0, none⟩)] 118 (0, 0)) ∧ (∃ fv, W.heap[Bd]? = some (.cells #[fv] 22 (0, 0))) ∧
  W.heap[Bv]? = some (.cells #[.func (.func 72) #[] #[.pointer (some ⟨Bf, 0, none⟩), .pointer (some ⟨Bd, 0, none⟩), .pointer (some ⟨Bv, 0, none⟩)]] 120 (0, 0))
theorem FileAt.fr {W W' : World} {ex : Nat → Prop} {F : Nat} {p : Pers} (h : FileAt W F p) (hf : Fr ex W W') (hx : ∀ q c t, ex q → W.heap[q]? = some (.cells c t (0, 0)) → t = 3 ∨ t = 22) : FileAt W' F p := by
  obtain ⟨rv, cv, av, svs, h1, h2, h3, h4⟩ := h
  refine ⟨rv, cv, av, svs, (hf.block _ (Array.getElem?_eq_some_iff.1 h1).1 (fun e => ?_)).trans h1, h2, own_fr h3 hf (fun g cur _ _ hc e => ?_), fun j hj => (h4 j hj).fr hf (fun g cur _ _ hc e => ?_)⟩
  · rcases hx _ _ _ e h1 with h | h <;> exact absurd h (by decide)
  · rcases hx _ _ _ e hc with h | h <;> exact absurd h (by decide)
  · rcases hx _ _ _ e hc with h | h <;> exact absurd h (by decide)
theorem LvEnv.fr {W W' : World} {ex : Nat → Prop} {p : Pers} {F Bf Bd Bv : Nat} (h : LvEnv W p F Bf Bd Bv) (hf : Fr ex W W') (hx : ∀ q c t, ex q → W.heap[q]? = some (.cells c t (0, 0)) → t = 3 ∨ t = 22) (hd : ∃ fv, W'.heap[Bd]? = some (.cells #[fv] 22 (0, 0))) : LvEnv W' p F Bf Bd Bv := by
  obtain ⟨h1, h2, h3, h4⟩ := h
  refine ⟨h1.fr hf hx, (hf.block _ (Array.getElem?_eq_some_iff.1 h2).1 (fun e => ?_)).trans h2, hd, (hf.block _ (Array.getElem?_eq_some_iff.1 h4).1 (fun e => ?_)).trans h4⟩
  · rcases hx _ _ _ e h2 with h | h <;> exact absurd h (by decide)
  · rcases hx _ _ _ e h4 with h | h <;> exact absurd h (by decide)
theorem LvEnv.below {W W' : World} {p : Pers} {F Bf Bd Bv : Nat} (h : LvEnv W p F Bf Bd Bv) (hb : Below W.heap.size W W') : LvEnv W' p F Bf Bd Bv :=
  h.fr (Fr.below hb (fun _ => False)) (fun _ _ _ h => h.elim) (by obtain ⟨_, _, ⟨fv, h3⟩, _⟩ := h; exact ⟨fv, (hb.block _ (Array.getElem?_eq_some_iff.1 h3).1).trans h3⟩)
/-- What the search leaves. -/
def LvPost (W : World) (Bd : Nat) (ov : Value) (out : List Int) (res : Option (List Int)) (e : Ending) (W' : World) : Prop :=
  IL W' ov out ∧ Fr (fun q => q = Bd ∨ ov.ownBlock = some q) W W' ∧
  match res with
  | none => e = .returned (.bool false) ∧ W'.heap[Bd]? = W.heap[Bd]?
  | some l => e = .returned (.bool true) ∧ ∃ fv, W'.heap[Bd]? = some (.cells #[fv] 22 (0, 0)) ∧ IL W' fv l
theorem IL.ex {W : World} {p : Pers} {F Bf Bd Bv : Nat} {ov : Value} {out : List Int} (h : LvEnv W p F Bf Bd Bv) (ho : IL W ov out) : ∀ (q : Nat) (c : Array Value) (t : TypeId), (q = Bd ∨ ov.ownBlock = some q) → W.heap[q]? = some (Obj.cells c t (0, 0)) → t = 3 ∨ t = 22 := by
  rintro q c t (rfl | hq) hc
  · obtain ⟨_, _, ⟨fv, h3⟩, _⟩ := h; rw [h3] at hc; cases hc; exact .inr rfl
  · rcases ho.2 with ⟨rfl, _⟩ | ⟨g, cap, cur, rfl, _, hg, _⟩
    · cases hq
    · cases hq; rw [hg] at hc; cases hc; exact .inl rfl
end Go.Proofs.Ytagfcfojfjkmbaa
