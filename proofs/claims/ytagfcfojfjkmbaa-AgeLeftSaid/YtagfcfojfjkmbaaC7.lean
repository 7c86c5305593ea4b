/- Leave: the recursive search. -/
import Derived.Test.YtagfcfojfjkmbaaC6
import Derived.Deep.RegionLawGrows
namespace Go.Proofs.Ytagfcfojfjkmbaa
open Go.RowKit Go.Shelf

/-- 'v' is v with one more number, in w1; while v' is kept, so is v. -/
def App (X w1 : World) (v : Value) (out : List Int) (i : Int) (v' : Value) : Prop :=
  IL w1 v' (out ++ [i]) ∧ Fr (fun q => v.ownBlock = some q) X w1 ∧ (∃ g cap, v' = .slice (some ⟨g, 0, none⟩) (out.length + 1) cap) ∧ (v'.ownBlock = v.ownBlock ∨ ∀ q, v'.ownBlock = some q → X.heap.size ≤ q) ∧
  ∀ (W' : World) (Bd : Nat), (∀ c, w1.heap[Bd]? ≠ some (Obj.cells c 3 (0, 0))) → IL W' v' (out ++ [i]) → Fr (fun q => q = Bd ∨ v'.ownBlock = some q) w1 W' → IL W' v out

theorem intsV_snoc (l : List Int) (i : Int) : intsV (l ++ [i]) = intsV l ++ [.int .i64 i] := by simp [intsV]
theorem intsV_length (l : List Int) : (intsV l).length = l.length := by simp [intsV]
theorem take_set_snoc (l : List Value) (n : Nat) (v : Value) (h : n < l.length) : (l.set n v).take (n + 1) = l.take n ++ [v] := by
  rw [List.take_succ_eq_append_getElem (by simpa using h)]
  simp [List.take_set_of_le]

theorem app_room {X : World} {g cap : Nat} {out : List Int} {i : Int} (h : IL X (.slice (some ⟨g, 0, none⟩) out.length cap) out) (hr : out.length + 1 ≤ cap) :
    App X (X.setCell ⟨g, out.length, none⟩ (.int .i64 i)) (.slice (some ⟨g, 0, none⟩) out.length cap) out i (.slice (some ⟨g, 0, none⟩) (out.length + 1) cap) := by
  have h0 := h
  rcases h.2 with ⟨h, _⟩ | ⟨g', cap', cur, e, _, hc, hle, hm, hs, ht⟩
  · cases h
  · cases e
    have hblk : (X.setCell ⟨g, out.length, none⟩ (.int .i64 i)).heap[g]? = some (.cells (cur.setIfInBounds out.length (.int .i64 i)) 3 (0, 0)) := by
      simp [World.setCell, Array.getElem?_modify, hc]
    refine ⟨⟨by simp [intsV], .inr ⟨g, cap, _, by simp, Nat.zero_le _, hblk, by simp; omega, hm, by simpa using hs, ?_⟩⟩, (Fr.set X g out.length _).mono (fun q _ e => by rw [e]; rfl), ⟨g, cap, rfl⟩, .inl rfl, ?_⟩
    · rw [intsV_snoc, ← ht]
      simp only [List.length_append, List.length_cons, List.length_nil, Nat.mul_one, Array.toList_setIfInBounds]
      exact take_set_snoc _ _ _ (by simp; omega)
    · intro W' Bd _ hW _
      rcases hW.2 with ⟨h, _⟩ | ⟨g2, cap2, cur2, e2, _, hc2, hle2, hm2, hs2, ht2⟩
      · cases h
      · rw [show (out ++ [i]).length = out.length + 1 from by simp] at e2
        cases e2
        refine ⟨by simp [intsV], .inr ⟨g, cap, cur2, rfl, Nat.zero_le _, hc2, by omega, hm2, hs2, ?_⟩⟩
        rw [intsV_snoc] at ht2
        have := congrArg (List.take out.length) ht2
        simp only [List.length_append, List.length_cons, List.length_nil, Nat.mul_one] at this ⊢
        rw [List.take_take, Nat.min_eq_left (by omega), List.take_append_of_le_length (by rw [intsV_length]; exact Nat.le_refl _), show List.take out.length (intsV out) = intsV out from List.take_of_length_le (by rw [intsV_length]; exact Nat.le_refl _)] at this
        exact this

theorem app_grow {X w1 : World} {v v' : Value} {out : List Int} {i : Int} (h : IL X v out) (h1 : w1.ownsRow X.heap.size 3 1 v' (out.length + 1) (intsV out ++ [.int .i64 i])) (hg : X.grownBy w1 none) : App X w1 v out i v' := by
  obtain ⟨g, cap, rfl, hgb, hgs⟩ := h1.form (by omega)
  have f := (Fr.grown hg).mono (ex' := fun _ => False) (fun _ _ e => by cases e)
  refine ⟨by unfold IL; rw [intsV_snoc]; simpa using own_mono h1 (Nat.zero_le _), f.mono (fun _ _ h => h.elim), ⟨g, cap, rfl⟩, .inr (fun q hq => by cases hq; exact hgb), fun W' Bd hBd _ hf => ?_⟩
  refine own_fr (own_fr h f (fun _ _ _ _ _ h => h)) hf ?_
  rintro q cur hq _ hc (rfl | e)
  · exact hBd _ hc
  · cases e
    rcases h.2 with ⟨rfl, _⟩ | ⟨g2, cap2, cur2, rfl, _, hc2, _⟩
    · cases hq
    · cases hq
      have := (Array.getElem?_eq_some_iff.1 hc2).1
      first | omega | (simp at hgb; omega)

theorem step_append_il {ops : Array Oper} {o : Oper} {a : Act} {X : World} {K : Act → World → Prop} {Q : Exit → Act → World → Prop} {E : Prop} (hgd : o.guard = none) (s x : Operand)
    (ho : o.op = .call { callee := .builtin .append, args := #[s, x], argTypes := #[22, 22] }) (v : Value) (out : List Int) (i : Int) (hs : a.eval s = v) (hil : IL X v out) (hlen : out.length ≤ 1000)
    (ad : Addr) (hx : a.eval x = .slice (some ad) 1 1) (hc : ∀ j u, [Value.int .i64 i][j]? = some u → X.cell? (ad.add j) = some u)
    (h : ∀ v' w', App X w' v out i v' → K (a.put o.dst v') w') :
    if Region.wanted o (yielded ops a.tmps) = true then Oper.wp Try.prog o a X K Q else E := by
  obtain ⟨i0, hi0, hz0, hz1, hz2⟩ := info_parts Try.infoInt
  have hone : ∀ u ∈ [Value.int .i64 i], u.oneCell' = true := by simp [Value.oneCell']
  rcases hil.form with ⟨rfl, rfl⟩ | ⟨g, cap, rfl, hg⟩
  · exact step_append_grows hgd s x 22 ho 3 i0 (.int .i64 0) 1 8 Try.underlying22 hi0 hz0 hz1 hz2 rfl (by decide) none 0 0 [] hs (fun _ => ⟨rfl, rfl⟩) rfl (fun b e => by cases e) ad 1 1 [.int .i64 i] hx rfl hc hone (by omega) (by unfold maxLen; omega) (by omega) (fun v' w' h1 h2 => h v' w' (app_grow hil h1 h2))
  · by_cases hr : out.length + 1 ≤ cap
    · refine step_append_room hgd s x 22 ho 3 i0 1 Try.underlying22 hi0 hz1 g 0 out.length cap hs ad 1 1 [.int .i64 i] hx rfl hc hone hr ?_ ?_
      · intro j hj
        obtain rfl : j = 0 := by simpa using hj
        rcases hil.2 with ⟨h, _⟩ | ⟨g', cap', cur, e, _, hcb, hle, hm, hs', ht⟩
        · cases h
        · cases e
          refine ⟨?_, frozen_of_row X g _ _ _ hcb⟩
          rw [cell_of_row X g _ _ _ _ hcb]
          simp; omega
      · have := h _ _ (app_room hil hr)
        simpa [World.setCells] using this
    · refine step_append_grows hgd s x 22 ho 3 i0 (.int .i64 0) 1 8 Try.underlying22 hi0 hz0 hz1 hz2 rfl (by decide) (some ⟨g, 0, none⟩) out.length cap (intsV out) hs (fun e => by cases e) (by simp [intsV]) ?_ ad 1 1 [.int .i64 i] hx rfl hc hone (by omega) (by unfold maxLen; omega) (by omega) (fun v' w' h1 h2 => h v' w' (app_grow hil h1 h2))
      intro b e j u hu
      cases e
      have hadd : (⟨g, 0, none⟩ : Addr).add j = ⟨g, j, none⟩ := by unfold Addr.add; split <;> simp_all
      rw [hadd, World.ownsRow.cellAt hil j (by have := (List.getElem?_eq_some_iff.1 hu).1; simp [intsV] at this ⊢; omega)]
      exact hu

theorem lvPost_none {W : World} {Bd : Nat} {ov : Value} {out : List Int} {res : Option (List Int)} {e : Ending} {W' : World} (hr : res = none) (h : LvPost W Bd ov out res e W') : e = .returned (.bool false) ∧ IL W' ov out ∧ Fr (fun q => q = Bd ∨ ov.ownBlock = some q) W W' ∧ W'.heap[Bd]? = W.heap[Bd]? := by
  subst hr; exact ⟨h.2.2.1, h.1, h.2.1, h.2.2.2⟩
theorem lvPost_some {W : World} {Bd : Nat} {ov : Value} {out l : List Int} {res : Option (List Int)} {e : Ending} {W' : World} (hr : res = some l) (h : LvPost W Bd ov out res e W') : e = .returned (.bool true) ∧ IL W' ov out ∧ Fr (fun q => q = Bd ∨ ov.ownBlock = some q) W W' ∧ ∃ fv, W'.heap[Bd]? = some (.cells #[fv] 22 (0, 0)) ∧ IL W' fv l := by
  subst hr; exact ⟨h.2.2.1, h.1, h.2.1, h.2.2.2⟩

set_option maxRecDepth 100000 in
set_option maxHeartbeats 2000000 in
theorem lv_zero (p : Pers) (F Bf Bd Bv : Nat) (next : Int) (ov : Value) (out : List Int) (W : World) (hok : p.fault = 0) (hE : LvEnv W p F Bf Bd Bv) (hI : IL W ov out) (hl : out.length ≤ 1000) (hne : ov ≠ .slice none 0 0 → 0 < out.length) :
    Calls Try.prog 72 #[ov, .int .i64 next, .int .i64 0, .pointer (some ⟨Bf, 0, none⟩), .pointer (some ⟨Bd, 0, none⟩), .pointer (some ⟨Bv, 0, none⟩)] W (LvPost W Bd ov out (lvF p.nc p.okOut 0 out next.toNat)) := by
  have HE := Lib.hid hE; have HI := Lib.hid hI; have HOK := Lib.hid hok; have HNE := Lib.hid hne
  obtain ⟨e1, e2, ⟨fv, e3⟩, e4⟩ := hE
  have c2 : W.cell? ⟨Bf, 0, none⟩ = some (.pointer (some ⟨F, 0, none⟩)) := cell_of_row _ _ 0 _ _ _ e2
  have hBds := (Array.getElem?_eq_some_iff.1 e3).1
  have E1 := Lib.hid e1; have E3 := Lib.hid e3
  clear e1 e2 e3 e4 hI hok hne
  have hD := days_any F p ov out.length (fun j => out.getD j 0) W HOK.out E1.out HI.out.ints (by omega)
  generalize hL : daysL p (inL (fun j => out.getD j 0) out.length) p.nc = L at hD
  have HD := Lib.hid hD; clear hD
  rcases Nat.eq_zero_or_pos L.length with h0 | h0
  · have hres : lvF p.nc p.okOut 0 out next.toNat = none := by
      have : L = [] := List.eq_nil_of_length_eq_zero h0
      show (if p.okOut out = true then some out else none) = none
      rw [if_neg (by unfold Pers.okOut; rw [hL, this]; decide)]
    rw [hres]
    have H0 := Lib.hid h0; clear h0 hL hres
    go_enter Try.func72, Try.ntmps72
    go_wp2_with (go_at_call 73; refine HD.out.mono ?_; rintro e w1 ⟨v1, rfl, hr1, hb1⟩; obtain ⟨a1, k1, rfl⟩ := hr1.slice; rw [H0.out]; clear hr1)
    go_ret
    exact ⟨HI.out.below hb1, Fr.below hb1 _, rfl, hb1.block _ hBds⟩
  · have hres : lvF p.nc p.okOut 0 out next.toNat = some out := by
      have : L ≠ [] := fun e => by rw [e] at h0; cases h0
      show (if p.okOut out = true then some out else none) = some out
      rw [if_pos (by unfold Pers.okOut; rw [hL]; cases L with | nil => exact absurd rfl this | cons _ _ => rfl)]
    rw [hres]
    clear hL hres
    generalize hn : L.length = n at *
    have hnz : ((n : Int) == 0) = false := by simp; omega
    have HN := Lib.hid hn; clear hn
    go_enter Try.func72, Try.ntmps72
    go_wp2_with (first
      | (go_at_call 73; refine HD.out.mono ?_; rintro e w1 ⟨v1, rfl, hr1, hb1⟩; obtain ⟨a1, k1, rfl⟩ := hr1.slice; rw [HN.out]; clear hr1)
      | (go_at_call 74; refine (clone_any _ out _ (HI.out.below hb1) hl HNE.out).mono ?_; rintro e w2 ⟨v2, rfl, hi2, hb2⟩; have hb3 : Below W.heap.size W w2 := hb1.trans (hb2.mono hb1.size); have hk2 := (hb3.block _ hBds).trans E3.out; have hc2 : w2.cell? ⟨Bd, 0, none⟩ = some fv := cell_of_row _ _ 0 _ _ _ hk2; have hf2 : w2.frozen? ⟨Bd, 0, none⟩ = false := frozen_of_row _ _ 0 _ _ hk2; have HK2 := Lib.hid hk2; have HI2 := Lib.hid hi2; have HB3 := Lib.hid hb3; obtain ⟨va, vc, rfl⟩ := hi2.ints.len; clear hi2 hb3 hk2 hb2))
    go_ret
    have hsb : ∀ (l : List Int) (v : Value), IL w2 v l → IL (w2.setCell ⟨Bd, 0, none⟩ (.slice va out.length vc)) v l := fun l v hv => own_fr hv (Fr.set w2 Bd 0 _) (fun g cur _ _ hg e => by subst e; rw [HK2.out] at hg; injection hg with e; injection e with _ e2; exact absurd e2 (by decide))
    exact ⟨hsb _ _ (HI.out.below HB3.out), ((Fr.below HB3.out _).trans ((Fr.set w2 Bd 0 _).mono (fun _ _ h => .inl h))), rfl, _, set_one HK2.out, hsb _ _ HI2.out⟩
end Go.Proofs.Ytagfcfojfjkmbaa
