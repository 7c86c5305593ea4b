/- Link: list, most, sure, cost, possible. Printed by gen_mi.py. -/
import Derived.Test.YtgbdbikjckfgmaaGreatMH
namespace Go.Proofs.YtgbdbikjckfgmaaGreat
open Go.RowKit Go.Shelf

/-- A file at work lies in block B. -/
def WkF (w : World) (B : Nat) (f : Fl) : Prop := ∃ xv, WkAt w B xv f.no f.nw f.P
theorem WkF.below {w w' : World} {B : Nat} {f : Fl} (h : WkF w B f) (hB : Below w.heap.size w w') : WkF w' B f := by
  obtain ⟨xv, h⟩ := h; exact ⟨xv, h.below hB⟩
theorem matchF_any {f : Fl} (ok : OkF f) (B : Nat) (sa : Option Addr) (sc : Nat) (L : List (Int × Int)) (w : World) (hL : L.length ≤ 100000) (hwk : WkF w B f) (hsk : SkIn w (.slice sa L.length sc) L) :
    Calls Tryz.prog 80 #[.pointer (some ⟨B, 0, none⟩), .slice sa L.length sc] w fun e w' => e = .returned (.tuple #[.agg (a8 (f.m L).1), .int .i64 ((f.m L).2 : Int)]) ∧ Below w.heap.size w w' := by
  obtain ⟨xv, hwk⟩ := hwk
  exact match_any (g := offG f.g (SK L)) B xv sa sc L w ok.no hL (fun i k h => by
    have := (Fl.g_in (Fl.P_mem.1 h)).2
    have := ok.nw
    omega) (fun i => Nat.le_trans (f.P_len i) ok.nw) (fun i k h => by simp only [offG, Fl.P_mem.1 h, Bool.true_and]) hwk hsk
theorem run_index_8 (l : Nat → Int) (w : World) (k : Nat) (hk : k < 8) : (Instr.index 134 (.agg (a8 l)) (.int .i64 k)).run Tryz.prog w = .ok (.int .i64 (l k)) w := by
  have hg := a8_get l hk
  simp [Instr.index, go_sem, part, hg]
  intro h; omega
def GivesI (w : World) (n : Nat) (z : Nat → Int) (e : Ending) (w' : World) : Prop := ∃ a c, e = .returned (.slice a n c) ∧ IntsIn w' (.slice a n c) n z ∧ Below w.heap.size w w'
theorem back_put {l : Nat → Int} {no k : Nat} (h : Rg no l) (hk : l k ≠ -1) : eA (fun j => if j = (l k).toNat then .int .i64 (k : Int) else .int .i64 (backL l j k)) no = eA (fun j => .int .i64 (backL l j (k + 1))) no := by
  unfold eA
  congr 1
  refine List.map_congr_left fun j _ => ?_
  have := (h.to hk).1
  simp only [backL]
  by_cases c : j = (l k).toNat
  · rw [if_pos c, if_pos (by omega)]
  · rw [if_neg c, if_neg (by omega)]
theorem back_skip {l : Nat → Int} {no k : Nat} (hk : l k = -1) : eA (fun j => .int .i64 (backL l j k)) no = eA (fun j => .int .i64 (backL l j (k + 1))) no := by
  unfold eA
  congr 1
  refine List.map_congr_left fun j _ => ?_
  simp only [backL]
  rw [if_neg (by omega)]
theorem BF.add {w X : World} {L : List (Nat × Array Value × TypeId)} (h : BF w X L) {b : Nat} {cs : Array Value} {T : TypeId} (hb : w.heap.size ≤ b) (hg : X.heap[b]? = some (.cells cs T (0, 0))) : BF w X ((b, cs, T) :: L) :=
  ⟨h.fr, fun q c t hm => by
    rcases List.mem_cons.1 hm with e | e
    · cases e; exact ⟨hb, hg⟩
    · exact h.bk _ _ _ e⟩
theorem BF.intsA {w X : World} {L : List (Nat × Array Value × TypeId)} (h : BF w X L) {b n : Nat} {z : Nat → Int} {T : TypeId} (hb : (b, eA (fun j => .int .i64 (z j)) n, T) ∈ L) (c : Nat) : IntsIn X (.slice (some ⟨b, 0, none⟩) n c) n z :=
  .inr ⟨b, 0, c, rfl, (h.lt hb).2, fun j hj => by rw [Nat.zero_add, h.cell hb]; exact eA_get (fun j => .int .i64 (z j)) hj⟩
theorem info_8 (l : Nat → Int) : (Tryz.prog.info? 134).map (·.size) = some (a8 l).size := by rw [a8_size]; kernel_rfl
set_option maxRecDepth 100000 in
set_option maxHeartbeats 4000000 in
theorem list_any {f : Fl} (ok : OkF f) (B : Nat) (l : Nat → Int) (w : World) (hwk : WkF w B f) (hl : Rg f.no l) :
    Calls Tryz.prog 81 #[.pointer (some ⟨B, 0, none⟩), .agg (a8 l)] w (GivesI w f.no (fun i => backL l i 8)) := by
  obtain ⟨xv, hwk⟩ := hwk
  have HS := Lib.hid (info_8 l)
  have HX := Lib.hid (run_index_8 l)
  have HL := Lib.hid hl
  have hno := ok.no
  have hB := hwk.lt
  have HRP := Lib.hid (fun b W (h : W.cell? ⟨b, 0, none⟩ = some (.int .i64 (-1))) => repeat_any b 1 f.no W hno h)
  have HA0 := Lib.hid ((BF.base w).alloc (a8 l) 134)
  have HA1 := Lib.hid (HA0.out.alloc #[.int .i64 (-1)] 3)
  have d0 := kept HA1.out.fr hB hwk.c0
  clear hwk hl
  generalize f.no = no at *
  rw [World.size_alloc] at HA1
  go_enter Tryz.func81, Tryz.ntmps81
  have e1 := HA1.out.cell (.head _) 0
  go_wp2_with (with_reducible refine wpList_box_row (o := ⟨some 3, .box 134 (.tmp 1), _, _, _, _⟩) rfl 134 (.tmp 1) rfl (a8 l) ?bx ?_)
  case bx => rfl
  refine (HRP.out _ _ e1).mono ?_
  rintro _ w2 ⟨rfl, hg, hb⟩
  have hs : ((w.alloc (.cells (a8 l) 134)).alloc (.cells #[.int .i64 (-1)] 3)).heap.size = w.heap.size + 1 + 1 := by simp
  rw [hs] at hg
  have HA2 : Hid (BF w w2 [(w.heap.size + 1 + 1, eA (fun i => .int .i64 (backL l i 0)) no, 3), (w.heap.size, a8 l, 134)]) := ((HA1.out.below hb).sub (List.forall_mem_cons.2 ⟨(.tail _ (.head _)), List.forall_mem_nil _⟩)).add (by omega) hg
  clear hg hb hs HA0 HA1 e1 d0 HRP
  obtain ⟨G, hG⟩ : ∃ G, w.heap.size + 1 + 1 = G := ⟨_, rfl⟩
  rw [hG] at HA2
  have hne : w.heap.size ≠ G := by omega
  have HR := Lib.hid (HA2.out.bk _ _ _ (.tail _ (.head _))).2
  go_wp2_with (with_reducible refine wpList_load_row (o := ⟨some 16, .load 134 (.tmp 3), _, _, _, _⟩) rfl 134 (.tmp 3) rfl w.heap.size ?lx 134 (a8 l) (0, 0) _ HR.out Tryz.underlying134 rfl HS.out ?_)
  case lx => rfl
  clear hG HR
  go_loopw [17] (fun i wr => ∃ k : Nat, i = .int .i64 k ∧ k ≤ 8 ∧ BF w wr [(G, eA (fun i => .int .i64 (backL l i k)) no, 3)]) (fun i _ => 8 - (intOf i).toNat)
  case atStart => exact ⟨0, rfl, Nat.zero_le _, HA2.out.sub (List.forall_mem_cons.2 ⟨(.head _), List.forall_mem_nil _⟩)⟩
  case round =>
    clear HA2
    obtain ⟨k, rfl, hk, hbf⟩ := hrel
    have HA := Lib.hid hbf
    clear hbf
    by_cases hlt : k < 8
    · have hidx := fun W => HX.out W k hlt
      have ki : (0 : Int) ≤ (k : Int) := by omega
      have kj : (k : Int) < 8 := by omega
      by_cases hm : l k = -1
      · have HB := Lib.hid (back_skip (no := no) hm)
        rw [hm] at hidx
        clear hm
        go_wp2_with fail
        go_roundw
        case rel => exact ⟨k + 1, by go_num, by omega, by rw [← HB.out]; exact HA.out⟩
        case measure => simp [intOf]; omega
      · have HB := Lib.hid (back_put HL.out hm)
        obtain ⟨hy, hyn⟩ := HL.out.to hm
        rw [← hy] at hidx
        have hy1 : (((l k).toNat : Int) != -1) = true := by simp; omega
        generalize (l k).toNat = y at *
        have yi : (0 : Int) ≤ (y : Int) := by omega
        have yj : (y : Int) < (no : Int) := by omega
        have e0 := (HA.out.cell (.head _) y).trans (eA_get (fun i => .int .i64 (backL l i k)) hyn)
        have f0 := HA.out.thaw (.head _) y
        have HA2 := Lib.hid (BF.set1 (i := y) (cs' := eA (fun i => .int .i64 (backL l i (k + 1))) no) HA.out (.head _) (.int .i64 (k : Int)) (by rw [eA_size]; exact hyn) (by rw [eA_set _ _ hyn]; exact HB.out) (L' := []) (List.forall_mem_nil _))
        clear hy hm
        go_wp2_with fail
        go_roundw
        case rel => exact ⟨k + 1, by go_num, by omega, HA2.out⟩
        case measure => simp [intOf]; omega
    · obtain rfl : k = 8 := by omega
      go_wp2_with fail
      go_ret
      exact ⟨_, _, rfl, HA.out.intsA (.head _) _, HA.out.fr⟩
end Go.Proofs.YtgbdbikjckfgmaaGreat
