/- Reference: On. -/
import Derived.Test.YtagfcfojfjkmbaaS1
import Derived.Test.YtagfcfojfjkmbaaN6
namespace Go.Proofs.Ytagfcfojfjkmbaa
open Go.RowKit Go.Shelf

def flgL (F : Nat → Bool) : List Value := (List.range 275).map fun i => .bool (F i)
def flg (F : Nat → Bool) : Array Value := (flgL F).toArray
theorem flg_size (F : Nat → Bool) : (flg F).size = 275 := by simp [flg, flgL]
theorem flg_zero : Try.zeroCells117 = flg fun _ => false := by kernel_rfl
theorem flg_get (F : Nat → Bool) (i : Nat) (h : i < 275) : (flg F)[i]? = some (.bool (F i)) := by simp [flg, flgL, h]
theorem flg_set (F : Nat → Bool) (i : Nat) : (flg F).setIfInBounds i (.bool true) = flg fun k => F k || decide (k = i) := by
  apply Array.ext_getElem?
  intro j
  rw [Array.getElem?_setIfInBounds]
  by_cases hj : j < 275
  · rw [flg_get (fun k => F k || decide (k = i)) _ hj]
    by_cases e : i = j
    · subst e; rw [if_pos rfl, if_pos (by rw [flg_size]; exact hj)]; simp
    · rw [if_neg e, flg_get _ _ hj]; simp [Ne.symm e]
  · have h1 : (flg fun k => F k || decide (k = i)).size ≤ j := by rw [flg_size]; omega
    have h2 : (flg F).size ≤ j := by rw [flg_size]; omega
    rw [Array.getElem?_eq_none h1, Array.getElem?_eq_none h2]
    by_cases e : i = j
    · subst e; simp [flg_size, hj]
    · rw [if_neg e]

/-- The flags of the ages of the days of a set. -/
def OnF (day : Int) (S : Int → Prop) (F : Nat → Bool) : Prop := ∀ a : Nat, F a = true ↔ ∃ b, S b ∧ b ≤ day ∧ (day - b) / 365 = a
theorem OnF.congr {day : Int} {S S' : Int → Prop} {F : Nat → Bool} (h : OnF day S F) (hc : ∀ x, x ≤ day → (S x ↔ S' x)) : OnF day S' F := fun a => by
  rw [h a]
  constructor
  · rintro ⟨b, h1, h2, h3⟩; exact ⟨b, (hc b h2).1 h1, h2, h3⟩
  · rintro ⟨b, h1, h2, h3⟩; exact ⟨b, (hc b h2).2 h1, h2, h3⟩
theorem OnF.step {day : Int} {S : Int → Prop} {F : Nat → Bool} (h : OnF day S F) {c : Int} (hc : c ≤ day) : OnF day (fun x => S x ∨ x = c) (fun k => F k || decide (k = ((day - c) / 365).toNat)) := fun a => by
  have hq0 : 0 ≤ (day - c) / 365 := Int.ediv_nonneg (by omega) (by omega)
  rw [Bool.or_eq_true, h a, decide_eq_true_eq]
  constructor
  · rintro (⟨b, h1, h2, h3⟩ | e)
    · exact ⟨b, .inl h1, h2, h3⟩
    · exact ⟨c, .inr rfl, hc, by omega⟩
  · rintro ⟨b, h1 | rfl, h2, h3⟩
    · exact .inl ⟨b, h1, h2, h3⟩
    · exact .inr (by omega)
theorem hasR_take {l : RL} {k : Nat} (hk : k < l.length) (x : Int) : hasR (l.take (k + 1)) x = true ↔ hasR (l.take k) x = true ∨ (l[k].1 ≤ x ∧ x ≤ l[k].2) := by
  rw [List.take_succ_eq_append_getElem hk, hasR_append, Bool.or_eq_true, hasR_cons, hasR_nil]
  simp
/-- The list of the flags before an age. -/
def UpF (F : Nat → Bool) (a : Nat) (l : RL) : Prop := Nrm l ∧ (∀ n, hasR l n = true ↔ 0 ≤ n ∧ n < a ∧ F n.toNat = true) ∧ l.length ≤ a
theorem UpF.low {F : Nat → Bool} {a : Nat} {l : RL} (h : UpF F a l) : ∀ r ∈ l, r.1 ≤ r.2 ∧ r.2 < a := by
  obtain ⟨h1, h2, h3⟩ := h
  intro r hr
  have hr2 := h1.2 r hr
  exact ⟨hr2, ((h2 r.2).1 ((hasR_iff _ _).2 ⟨r, hr, hr2, Int.le_refl _⟩)).2.1⟩
theorem UpF.skip {F : Nat → Bool} {a : Nat} {l : RL} (h : UpF F a l) (hf : F a = false) : UpF F (a + 1) l := by
  obtain ⟨h1, h2, h3⟩ := h
  refine ⟨h1, fun n => ?_, by omega⟩
  rw [h2]
  constructor
  · rintro ⟨x, y, z⟩; exact ⟨x, by omega, z⟩
  · rintro ⟨x, y, z⟩
    refine ⟨x, ?_, z⟩
    by_cases e : n = a
    · subst e; rw [Int.toNat_natCast, hf] at z; cases z
    · omega
theorem UpF.next {F : Nat → Bool} {a : Nat} {l : RL} (h : UpF F a l) (hf : F a = true) : UpF F (a + 1) (ext l a a) := by
  have hlow := h.low
  obtain ⟨h1, h2, h3⟩ := h
  obtain ⟨e1, e2⟩ := ext_facts h1 (Int.le_refl (a : Int)) (fun r hr => by have := hlow r hr; omega)
  refine ⟨e1, fun n => ?_, by have := ext_length l a a; omega⟩
  rw [e2, Bool.or_eq_true, h2, Bool.and_eq_true, decide_eq_true_eq, decide_eq_true_eq]
  constructor
  · rintro (⟨x, y, z⟩ | ⟨x, y⟩)
    · exact ⟨x, by omega, z⟩
    · obtain rfl : n = a := by omega
      exact ⟨by omega, by omega, by rw [Int.toNat_natCast]; exact hf⟩
  · rintro ⟨x, y, z⟩
    by_cases e : n = a
    · exact .inr (by omega)
    · exact .inl ⟨x, by omega, z⟩
theorem upF_on {day : Int} {l out : RL} {F : Nat → Bool} (hl : Nrm l) (hb : ∀ r ∈ l, -50000 ≤ r.1) (hd : day ≤ 50000) (hF : OnF day (fun x => hasR l x = true) F) (h : UpF F 275 out) : out = onG day l := by
  obtain ⟨g1, g2⟩ := onG_facts day hl
  obtain ⟨h1, h2, h3⟩ := h
  refine Nrm.ext h1 g1 fun n => ?_
  rw [Bool.eq_iff_iff, h2, g2]
  constructor
  · rintro ⟨x, y, z⟩
    obtain ⟨b, b1, b2, b3⟩ := (hF _).1 z
    exact ⟨b, b1, b2, by omega⟩
  · rintro ⟨b, b1, b2, rfl⟩
    obtain ⟨r, hr, r1, r2⟩ := (hasR_iff _ _).1 b1
    have := hb r hr
    have hq0 : 0 ≤ (day - b) / 365 := Int.ediv_nonneg (by omega) (by omega)
    exact ⟨hq0, by omega, (hF _).2 ⟨b, b1, b2, by omega⟩⟩

set_option maxRecDepth 100000 in
set_option maxHeartbeats 8000000 in
theorem refOn_any (v : Value) (l : RL) (day : Int) (w : World) (h : RgAt w v l) (hl : Nrm l) (hb : ∀ r ∈ l, -50000 ≤ r.1 ∧ r.1 ≤ r.2 ∧ r.2 ≤ 50000) (hlen : l.length ≤ 1000000) (hd : -50000 ≤ day ∧ day ≤ 50000) :
    Calls Try.prog 31 #[v, .int .i64 day] w (GivesQ w (onG day l)) := by
  obtain ⟨sa, sc, rfl⟩ := h.slice
  have HA := Lib.hid h; have HL := Lib.hid hl; have HBD := Lib.hid hb; clear h hl hb
  have HK0 : Hid ((w.alloc (.cells Try.zeroCells117 117)).heap[w.heap.size]? = some (.cells (flg fun _ => false) 117 (0, 0))) := by rw [← flg_zero]; exact heap_alloc_new _ _
  have HB0 : Hid (Below w.heap.size w (w.alloc (.cells Try.zeroCells117 117))) := below_alloc _ _
  go_enter Try.func31, Try.ntmps31
  go_wp2
  go_loopw [6] (fun i wr => ∃ k : Nat, k ≤ l.length ∧ i = .int .i64 k ∧ ∃ F : Nat → Bool, OnF day (fun x => hasR (l.take k) x = true) F ∧ wr.heap[w.heap.size]? = some (.cells (flg F) 117 (0, 0)) ∧ Below w.heap.size w wr) (fun i _ => l.length - (intOf i).toNat)
  case atStart => exact ⟨0, Nat.zero_le _, rfl, _, fun a => by simp [hasR], HK0.out, HB0.out⟩
  case round =>
    clear HK0 HB0
    obtain ⟨k, hk, rfl, F, hF, hblk, hbl⟩ := hrel
    have HF := Lib.hid hF; have HK := Lib.hid hblk; have HBL := Lib.hid hbl; clear hF hblk hbl
    by_cases hlt : k < l.length
    · have HAX := Lib.hid (fun (W : World) (hW : Below w.heap.size w W) => (HA.out.kept hW).get hlt)
      have hbk := HBD.out l[k] (List.getElem_mem hlt)
      have HT := Lib.hid (hasR_take hlt)
      obtain ⟨ba, oa, rfl, x0, x1⟩ := HAX.out wr HBL.out
      generalize (l[k]).1 = lo at *
      generalize (l[k]).2 = hi at *
      have ki : (0 : Int) ≤ (k : Int) := by omega
      have kj : (k : Int) < (l.length : Int) := by omega
      go_wp2
      obtain ⟨wo, rfl⟩ : ∃ wo : World, wo = wr := ⟨_, rfl⟩
      go_loopw [7] (fun i wr => ∃ c : Int, lo ≤ c ∧ c ≤ hi + 1 ∧ i = .int .i64 c ∧ ∃ F : Nat → Bool, OnF day (fun x => hasR (l.take k) x = true ∨ (lo ≤ x ∧ x < c)) F ∧ wr.heap[w.heap.size]? = some (.cells (flg F) 117 (0, 0)) ∧ Below w.heap.size w wr) (fun i _ => (hi + 1 - intOf i).toNat)
      case atStart => exact ⟨lo, Int.le_refl _, by omega, rfl, F, HF.out.congr fun x _ => ⟨fun h => .inl h, fun h => h.elim id (fun h => by omega)⟩, HK.out, HBL.out⟩
      case round =>
        clear HF HK HBL x0 x1 F
        obtain ⟨c, hc0, hc1, rfl, F, hF, hblk, hbl⟩ := hrel
        have HF := Lib.hid hF; have HK := Lib.hid hblk; have HBL := Lib.hid hbl; clear hF hblk hbl
        obtain ⟨_, _, e1, x0, x1⟩ := HAX.out wr HBL.out
        cases e1
        by_cases hch : c ≤ hi
        · by_cases hcd : c ≤ day
          · have hq0 : 0 ≤ (day - c) / 365 := Int.ediv_nonneg (by omega) (by omega)
            have hq1 : (day - c) / 365 < 275 := by omega
            have hcell : wr.cell? ⟨w.heap.size, ((day - c) / 365).toNat, none⟩ = some (.bool (F ((day - c) / 365).toNat)) := by
              rw [cell_of_row _ _ _ _ _ _ HK.out]; exact flg_get F _ (by omega)
            have hfz : wr.frozen? ⟨w.heap.size, ((day - c) / 365).toNat, none⟩ = false := frozen_of_row _ _ _ _ _ HK.out
            go_wp2
            go_roundw
            case rel =>
              refine ⟨c + 1, by omega, by omega, rfl, _, (HF.out.step hcd).congr fun x _ => ⟨?_, ?_⟩, ?_, HBL.out.setCell (Nat.le_refl _) _⟩
              · rintro ((h | h) | rfl)
                · exact .inl h
                · exact .inr (by omega)
                · exact .inr (by omega)
              · rintro (h | h)
                · exact .inl (.inl h)
                · by_cases e : x = c
                  · exact .inr e
                  · exact .inl (.inr (by omega))
              · rw [← flg_set]
                simp [World.setCell, Array.getElem?_modify, HK.out]
            case measure => simp [intOf]; omega
          · go_wp2
            go_roundw
            case rel => exact ⟨k + 1, by omega, by go_num, F, HF.out.congr fun x hx => by rw [HT.out]; exact ⟨fun h => h.elim .inl (fun h => .inr (by omega)), fun h => h.elim .inl (fun h => .inr (by omega))⟩, HK.out, HBL.out⟩
            case measure => simp [intOf]; omega
        · go_wp2
          go_roundw
          case rel => exact ⟨k + 1, by omega, by go_num, F, HF.out.congr fun x hx => by rw [HT.out]; exact ⟨fun h => h.elim .inl (fun h => .inr (by omega)), fun h => h.elim .inl (fun h => .inr (by omega))⟩, HK.out, HBL.out⟩
          case measure => simp [intOf]; omega
    · obtain rfl : k = l.length := by omega
      have HF' : Hid (OnF day (fun x => hasR l x = true) F) := by have := HF.out; rw [List.take_length] at this; exact this
      have hs : w.heap.size < wr.heap.size := (Array.getElem?_eq_some_iff.1 HK.out).1
      clear HF
      go_wp2
      obtain ⟨wo, rfl⟩ : ∃ wo : World, wo = wr := ⟨_, rfl⟩
      go_loopw [8, 9] (fun v i wr => ∃ a : Nat, a ≤ 275 ∧ i = .int .i64 a ∧ ∃ out : RL, UpF F a out ∧ RgAt wr v out ∧ Below wo.heap.size wo wr) (fun _ i _ => 275 - (intOf i).toNat)
      case atStart => exact ⟨0, Nat.zero_le _, rfl, [], ⟨Nrm.nil, fun n => by simp [hasR]; omega, Nat.le_refl _⟩, .inl ⟨rfl, _, _, rfl⟩, Below.refl _ _⟩
      case round =>
        obtain ⟨a, ha, rfl, out, hup, hrg, hb2⟩ := hrel
        obtain ⟨oa, oc, rfl⟩ := hrg.slice
        have HUP := Lib.hid hup; have HRG := Lib.hid hrg; have HB2 := Lib.hid hb2
        have hblk : wr.heap[w.heap.size]? = some (.cells (flg F) 117 (0, 0)) := (hb2.block _ hs).trans HK.out
        have holen := hup.2.2
        clear hup hrg hb2
        by_cases hal : a < 275
        · have hcell : wr.cell? ⟨w.heap.size, a, none⟩ = some (.bool (F a)) := by
            rw [cell_of_row _ _ _ _ _ _ hblk]; exact flg_get F _ hal
          clear hblk
          have ki : (0 : Int) ≤ (a : Int) := by omega
          have kj : (a : Int) < 275 := by omega
          cases hfa : F a
          · rw [hfa] at hcell
            go_wp2
            go_roundw
            case rel => exact ⟨a + 1, by omega, by go_num, out, HUP.out.skip hfa, HRG.out, HB2.out⟩
            case measure => simp [intOf]; omega
          · rw [hfa] at hcell
            go_wp2_with (go_at_call 55; refine (with_any _ out a _ HRG.out (by omega) (fun r hr => (HUP.out.low r hr).2) (by omega)).mono ?_; rintro _ w1 ⟨v1, rfl, hr1, hb1⟩)
            go_roundw
            case rel => exact ⟨a + 1, by omega, by go_num, _, HUP.out.next hfa, hr1, below_step HB2.out hb1⟩
            case measure => simp [intOf]; omega
        · obtain rfl : a = 275 := by omega
          have HE : Hid (out = onG day l) := upF_on HL.out (fun r hr => (HBD.out r hr).1) hd.2 HF'.out HUP.out
          go_wp2
          go_ret
          exact ⟨_, rfl, by rw [← HE.out]; exact HRG.out, HBL.out.trans (HB2.out.mono (Nat.le_of_lt hs))⟩
end Go.Proofs.Ytagfcfojfjkmbaa
