/- Leave: the recursive search, by induction; Leave. -/
import Derived.Test.YtagfcfojfjkmbaaC7
namespace Go.Proofs.Ytagfcfojfjkmbaa
open Go.RowKit Go.Shelf

theorem lvL_step {step : List Int → Nat → Option (List Int)} {nc : Nat} {out : List Int} {k : Nat} (hk : k < nc) : lvL step nc out (nc - k) = match step (out ++ [(k : Int)]) (k + 1) with | some l => some l | none => lvL step nc out (nc - (k + 1)) := by
  obtain ⟨d, hd⟩ : ∃ d, nc - k = d + 1 := ⟨nc - k - 1, by omega⟩
  rw [hd, lvL, show nc - (d + 1) = k from by omega, show nc - (k + 1) = d from by omega]
  cases step (out ++ [(k : Int)]) (k + 1) <;> rfl
theorem LvPost.mkNone {W : World} {Bd : Nat} {ov : Value} {out : List Int} {res : Option (List Int)} {e : Ending} {W' : World} (hr : res = none) (h1 : IL W' ov out) (h2 : Fr (fun q => q = Bd ∨ ov.ownBlock = some q) W W') (h3 : e = .returned (.bool false)) (h4 : W'.heap[Bd]? = W.heap[Bd]?) : LvPost W Bd ov out res e W' := by
  subst hr; exact ⟨h1, h2, h3, h4⟩
theorem LvPost.mkSome {W : World} {Bd : Nat} {ov : Value} {out l : List Int} {res : Option (List Int)} {e : Ending} {W' : World} (hr : res = some l) (h1 : IL W' ov out) (h2 : Fr (fun q => q = Bd ∨ ov.ownBlock = some q) W W') (h3 : e = .returned (.bool true)) (h4 : ∃ fv, W'.heap[Bd]? = some (.cells #[fv] 22 (0, 0)) ∧ IL W' fv l) : LvPost W Bd ov out res e W' := by
  subst hr; exact ⟨h1, h2, h3, h4⟩

attribute [local go_sem ↓] Go.wp_at_zero Go.wp_at_succ

set_option maxRecDepth 100000 in
set_option maxHeartbeats 4000000 in
theorem lv_succ (p : Pers) (F Bf Bd Bv : Nat) (hok : p.fault = 0) (m : Nat)
    (ih : ∀ (next : Nat) (ov : Value) (out : List Int) (W : World), LvEnv W p F Bf Bd Bv → IL W ov out → out.length + m ≤ 100 → (ov ≠ .slice none 0 0 → 0 < out.length) → next ≤ 100 →
      Calls Try.prog 72 #[ov, .int .i64 next, .int .i64 m, .pointer (some ⟨Bf, 0, none⟩), .pointer (some ⟨Bd, 0, none⟩), .pointer (some ⟨Bv, 0, none⟩)] W (LvPost W Bd ov out (lvF p.nc p.okOut m out next)))
    (next : Nat) (ov : Value) (out : List Int) (W : World) (hE : LvEnv W p F Bf Bd Bv) (hI : IL W ov out) (hl : out.length + (m + 1) ≤ 100) (hnx : next ≤ 100) :
      Calls Try.prog 72 #[ov, .int .i64 next, .int .i64 ((m : Int) + 1), .pointer (some ⟨Bf, 0, none⟩), .pointer (some ⟨Bd, 0, none⟩), .pointer (some ⟨Bv, 0, none⟩)] W (LvPost W Bd ov out (lvF p.nc p.okOut (m + 1) out next)) := by
  have hnc := (Pers.ok_facts hok).2.1
  have HIH := Lib.hid ih; have HE := Lib.hid hE; have HI := Lib.hid hI; clear ih hE hI hok
  have hmz : (((m : Int) + 1) == 0) = false := by simp; omega
  obtain ⟨oa, oc, rfl⟩ := HI.out.ints.len
  go_enter Try.func72, Try.ntmps72
  go_wp2
  go_loopw [10] (fun i wr => ∃ k : Nat, i = .int .i64 k ∧ next ≤ k ∧ k ≤ 100 ∧ lvF p.nc p.okOut (m + 1) out next = lvL (lvF p.nc p.okOut m) p.nc out (p.nc - k) ∧ IL wr (.slice oa out.length oc) out ∧ Fr (fun q => q = Bd ∨ (Value.slice oa out.length oc).ownBlock = some q) W wr ∧ wr.heap[Bd]? = W.heap[Bd]?) (fun i _ => 200 - (intOf i).toNat)
  case atStart => exact ⟨next, rfl, Nat.le_refl _, hnx, rfl, HI.out, Fr.refl _ _, rfl⟩
  case round =>
    obtain ⟨k, rfl, hk1, hk2, hres, hil, hfr, hbd⟩ := hrel
    have henv : LvEnv wr p F Bf Bd Bv := HE.out.fr hfr (IL.ex HE.out HI.out) (by obtain ⟨_, _, ⟨fv, h3⟩, _⟩ := HE.out; exact ⟨fv, hbd.trans h3⟩)
    have HENV := Lib.hid henv; have HIL := Lib.hid hil; have HFR := Lib.hid hfr; have HBD := Lib.hid hbd; have HRES := Lib.hid hres
    obtain ⟨e1, e2, ⟨fv, e3⟩, e4⟩ := henv
    obtain ⟨rv, cv, av, svs, f1, ⟨ca, cc, rfl⟩, _⟩ := e1
    have c2 : wr.cell? ⟨Bf, 0, none⟩ = some (.pointer (some ⟨F, 0, none⟩)) := cell_of_row _ _ 0 _ _ _ e2
    have c3 : wr.cell? ⟨F, 3, none⟩ = some (.slice ca p.nc cc) := cell_of_row _ _ 3 _ _ _ f1
    have c5 : wr.cell? ⟨Bv, 0, none⟩ = some (.func (.func 72) #[] #[.pointer (some ⟨Bf, 0, none⟩), .pointer (some ⟨Bd, 0, none⟩), .pointer (some ⟨Bv, 0, none⟩)]) := cell_of_row _ _ 0 _ _ _ e4
    have hBv := (Array.getElem?_eq_some_iff.1 e4).1
    have hBd := (Array.getElem?_eq_some_iff.1 e3).1
    have E3 := Lib.hid e3; have E4 := Lib.hid e4
    clear hil hfr hbd hres e2 e3 e4 f1
    by_cases hlt : k < p.nc
    · have hst := HRES.out.trans (lvL_step hlt)
      have HST := Lib.hid hst; clear hst
      have hcall : ∀ (X w1 : World) (v' : Value), Below wr.heap.size wr X → App X w1 (.slice oa out.length oc) out k v' →
          Calls Try.prog 72 #[v', .int .i64 ((k : Int) + 1), .int .i64 m, .pointer (some ⟨Bf, 0, none⟩), .pointer (some ⟨Bd, 0, none⟩), .pointer (some ⟨Bv, 0, none⟩)] w1 fun e W2 =>
            LvPost w1 Bd v' (out ++ [(k : Int)]) (lvF p.nc p.okOut m (out ++ [(k : Int)]) (k + 1)) e W2 ∧ IL W2 (.slice oa out.length oc) out ∧ Fr (fun q => q = Bd ∨ (Value.slice oa out.length oc).ownBlock = some q) W W2 ∧ w1.heap[Bd]? = W.heap[Bd]? ∧ W2.cell? ⟨Bv, 0, none⟩ = some (.func (.func 72) #[] #[.pointer (some ⟨Bf, 0, none⟩), .pointer (some ⟨Bd, 0, none⟩), .pointer (some ⟨Bv, 0, none⟩)]) := by
        intro X w1 v' hX happ
        obtain ⟨a1, a2, ⟨g, cap, hv⟩, a4, a5⟩ := happ
        have envX := HENV.out.below hX
        have exX := IL.ex envX (HIL.out.below hX)
        have a2' := a2.mono (ex' := fun q => q = Bd ∨ (Value.slice oa out.length oc).ownBlock = some q) (fun _ _ h => .inr h)
        have hbdX : X.heap[Bd]? = some (.cells #[fv] 22 (0, 0)) := (hX.block _ hBd).trans E3.out
        have hbd1 : w1.heap[Bd]? = some (.cells #[fv] 22 (0, 0)) := by
          refine (a2.block _ (Nat.lt_of_lt_of_le hBd hX.size) (fun e => ?_)).trans hbdX
          rcases (HIL.out.below hX).2 with ⟨h, _⟩ | ⟨g', cap', cur, h, _, hc, _⟩
          · rw [h] at e; cases e
          · rw [h] at e; cases e; rw [hbdX] at hc; injection hc with e; injection e with _ e2; exact absurd e2 (by decide)
        have env1 : LvEnv w1 p F Bf Bd Bv := envX.fr a2' exX ⟨fv, hbd1⟩
        have env1' := env1
        have := HIH.out (k + 1) v' (out ++ [(k : Int)]) w1 env1 a1 (by simp; omega) (fun _ => by simp) (by omega)
        rw [show ((k + 1 : Nat) : Int) = (k : Int) + 1 from by omega] at this
        refine this.mono fun e W2 hp => ⟨hp, a5 W2 Bd (fun c hc => by rw [hbd1] at hc; injection hc with e; injection e with _ e2; exact absurd e2 (by decide)) hp.1 hp.2.1, ?_, hbd1.trans (E3.out.symm.trans HBD.out), ?_⟩
        rotate_left
        · obtain ⟨_, _, _, env4⟩ := env1
          refine cell_of_row _ _ 0 _ _ _ ((hp.2.1.block _ (Array.getElem?_eq_some_iff.1 env4).1 (fun e => ?_)).trans env4)
          rcases IL.ex (p := p) (F := F) (Bf := Bf) (Bv := Bv) env1' a1 _ _ _ e env4 with h | h <;> exact absurd h (by decide)
        have f1 := HFR.out.trans ((Fr.below hX _).trans a2')
        have s1 := HFR.out.size
        have s2 := hX.size
        refine ⟨hp.2.1.os.trans f1.os, hp.2.1.tape.trans f1.tape, hp.2.1.output.trans f1.output, Nat.le_trans f1.size hp.2.1.size, fun q hq he => (hp.2.1.block q (Nat.lt_of_lt_of_le hq f1.size) ?_).trans (f1.block q hq he)⟩
        rintro (h | h)
        · exact he (.inl h)
        · rcases a4 with e | e
          · exact he (.inr (e ▸ h))
          · have := e q h; omega
      have HCALL := Lib.hid hcall; clear hcall
      have hc5 : ∀ (X w1 : World) (v' : Value), Below wr.heap.size wr X → App X w1 (.slice oa out.length oc) out k v' → w1.cell? ⟨Bv, 0, none⟩ = some (.func (.func 72) #[] #[.pointer (some ⟨Bf, 0, none⟩), .pointer (some ⟨Bd, 0, none⟩), .pointer (some ⟨Bv, 0, none⟩)]) := by
        intro X w1 v' hX happ
        refine cell_of_row _ _ 0 _ _ _ ((happ.2.1.block _ (Nat.lt_of_lt_of_le hBv hX.size) (fun e => ?_)).trans ((hX.block _ hBv).trans E4.out))
        rcases IL.ex (HENV.out.below hX) (HIL.out.below hX) _ _ _ (.inr e) ((hX.block _ hBv).trans E4.out) with h | h <;> exact absurd h (by decide)
      have HC5 := Lib.hid hc5; clear hc5
      have wk : IntKind.i64.wrap ((k : Int) + 1) = (k : Int) + 1 := IntWalk.i64_in _ (by omega)
      have wm : IntKind.i64.wrap (m : Int) = (m : Int) := IntWalk.i64_in _ (by omega)
      have hol : out.length ≤ 1000 := by omega
      cases hr : lvF p.nc p.okOut m (out ++ [(k : Int)]) (k + 1) with
      | none =>
        have HR := Lib.hid hr; clear hr
        have HST2 : Hid (lvF p.nc p.okOut (m + 1) out next = lvL (lvF p.nc p.okOut m) p.nc out (p.nc - (k + 1))) := by
          have := HST.out; rw [HR.out] at this; exact this
        go_wp2
        go_region_held3 (fun w' => w'.cell? ⟨Bv, 0, none⟩ = some (.func (.func 72) #[] #[.pointer (some ⟨Bf, 0, none⟩), .pointer (some ⟨Bd, 0, none⟩), .pointer (some ⟨Bv, 0, none⟩)])) (first | assumption | go_keep) (first
          | (refine step_append_il (by rfl) _ _ (by rfl) (.slice oa out.length oc) out k (by rfl) (IL.below HIL.out ?_) hol ⟨wr.heap.size, 0, none⟩ (by rfl) ?_ ?_; (first | exact (below_alloc _ _).drew | exact (Below.refl _ _).drew.alloc (by simp) _); exact World.news_of_block (cs := #[.int .i64 (k : Int)]) (t := 3) (fr := (0, 0)) (heap_alloc_new wr _); intro v' w1 happ; have HAPP := Lib.hid happ; have hc5 := HC5.out _ _ _ (by first | exact (below_alloc _ _).drew | exact (Below.refl _ _).drew.alloc (by simp) _) happ; obtain ⟨_, happ2, ⟨g, cap, rfl⟩, _⟩ := happ; clear happ2)
          | (go_at_call 72; refine (HCALL.out _ _ _ ?_ HAPP.out).mono ?_; (first | exact (below_alloc _ _).drew | exact (Below.refl _ _).drew.alloc (by simp) _); rintro e W2 ⟨hp, hi2, hf2, hb2, hc6⟩; obtain ⟨rfl, _, _, hb3⟩ := lvPost_none HR.out hp; have HI2 := Lib.hid hi2; have HF2 := Lib.hid hf2; have HB2 := Lib.hid (hb3.trans hb2); clear hp hi2 hf2 hb2 hb3))
        clear wk wm
        go_wp2
        go_roundw
        case rel => exact ⟨k + 1, by go_num, by omega, by omega, HST2.out, HI2.out, HF2.out, HB2.out⟩
        case measure => simp [intOf]; omega
      | some l =>
        have HR := Lib.hid hr; clear hr
        have HST2 : Hid (lvF p.nc p.okOut (m + 1) out next = some l) := by
          have := HST.out; rw [HR.out] at this; exact this
        go_wp2
        go_region_held3 (fun w' => w'.cell? ⟨Bv, 0, none⟩ = some (.func (.func 72) #[] #[.pointer (some ⟨Bf, 0, none⟩), .pointer (some ⟨Bd, 0, none⟩), .pointer (some ⟨Bv, 0, none⟩)])) (first | assumption | go_keep) (first
          | (refine step_append_il (by rfl) _ _ (by rfl) (.slice oa out.length oc) out k (by rfl) (IL.below HIL.out ?_) hol ⟨wr.heap.size, 0, none⟩ (by rfl) ?_ ?_; (first | exact (below_alloc _ _).drew | exact (Below.refl _ _).drew.alloc (by simp) _); exact World.news_of_block (cs := #[.int .i64 (k : Int)]) (t := 3) (fr := (0, 0)) (heap_alloc_new wr _); intro v' w1 happ; have HAPP := Lib.hid happ; have hc5 := HC5.out _ _ _ (by first | exact (below_alloc _ _).drew | exact (Below.refl _ _).drew.alloc (by simp) _) happ; obtain ⟨_, happ2, ⟨g, cap, rfl⟩, _⟩ := happ; clear happ2)
          | (go_at_call 72; refine (HCALL.out _ _ _ ?_ HAPP.out).mono ?_; (first | exact (below_alloc _ _).drew | exact (Below.refl _ _).drew.alloc (by simp) _); rintro e W2 ⟨hp, hi2, hf2, hb2, hc6⟩; obtain ⟨rfl, _, _, hb3⟩ := lvPost_some HR.out hp; have HI2 := Lib.hid hi2; have HF2 := Lib.hid hf2; have HB2 := Lib.hid hb3; clear hp hi2 hf2 hb2 hb3))
        clear wk wm
        go_wp2
        go_ret
        exact LvPost.mkSome HST2.out HI2.out HF2.out rfl HB2.out
    · have HNO : Hid (lvF p.nc p.okOut (m + 1) out next = none) := by unfold Hid; rw [HRES.out, show p.nc - k = 0 from by omega]; rfl
      go_wp2
      go_ret
      exact LvPost.mkNone HNO.out HIL.out HFR.out rfl HBD.out

theorem lv_any (p : Pers) (F Bf Bd Bv : Nat) (hok : p.fault = 0) (m : Nat) : ∀ (next : Nat) (ov : Value) (out : List Int) (W : World), LvEnv W p F Bf Bd Bv → IL W ov out → out.length + m ≤ 100 → (ov ≠ .slice none 0 0 → 0 < out.length) → next ≤ 100 →
      Calls Try.prog 72 #[ov, .int .i64 next, .int .i64 m, .pointer (some ⟨Bf, 0, none⟩), .pointer (some ⟨Bd, 0, none⟩), .pointer (some ⟨Bv, 0, none⟩)] W (LvPost W Bd ov out (lvF p.nc p.okOut m out next)) := by
  induction m with
  | zero =>
    intro next ov out W hE hI hl hne hn
    exact lv_zero p F Bf Bd Bv next ov out W hok hE hI (by omega) hne
  | succ m ih =>
    intro next ov out W hE hI hl _ hn
    exact lv_succ p F Bf Bd Bv hok m ih next ov out W hE hI hl hn

/-- The first size at which a list can be left out. -/
def lvS (f : Nat → Option (List Int)) : Nat → Nat → Option (List Int)
  | 0, _ => none
  | k + 1, m => match f m with
    | some l => some l
    | none => lvS f k (m + 1)
/-- The smallest set of records that can be left out. -/
def Pers.leave (p : Pers) : List Int := if p.fault = 0 then (lvS (fun m => lvF p.nc p.okOut m [] 0) (p.nc + 1) 0).getD [] else []
def GivesI (w : World) (l : List Int) (err : Int) (e : Ending) (w' : World) : Prop := ∃ v, e = .returned (.tuple #[v, .int .i64 err]) ∧ IL w' v l ∧ Below w.heap.size w w'
end Go.Proofs.Ytagfcfojfjkmbaa
