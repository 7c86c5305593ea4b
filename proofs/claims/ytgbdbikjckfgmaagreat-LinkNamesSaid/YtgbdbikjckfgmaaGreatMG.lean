/- Link: match and most. Printed by gen_mg.py. -/
import Derived.Test.YtgbdbikjckfgmaaGreatMF
namespace Go.Proofs.YtgbdbikjckfgmaaGreat
open Go.RowKit Go.Shelf

theorem free_any {g : Nat → Nat → Bool} {P : Nat → List Nat} {no nw : Nat} (B Bw Bo Bl Bs Bf : Nat) (xv : WkV) (sa : Option Addr) (sc : Nat) (L : List (Int × Int)) (w : World) (hL : L.length ≤ 100000)
    (hP : ∀ i k, k ∈ P i → k < 8) (hPl : ∀ i, (P i).length ≤ 8) (hg : ∀ i k, k ∈ P i → g i k = !SK L i k) (hwk : WkAt w B xv no nw P) (hsk : SkIn w (.slice sa L.length sc) L)
    (h1 : Bw < Bo) (h2 : Bo < Bl) (h3 : Bl < Bs) (h4 : Bs < Bf) :
    ∀ (f x : Nat) (l : Nat → Int) (s : Nat → Bool) (W : World), x < no → Rg no l → unseen 8 s < f → BF w W (FL B Bw Bo Bl Bs Bf (.slice sa L.length sc) l s) →
      Calls Tryz.prog 110 #[.int .i64 (x : Int), .pointer (some ⟨Bw, 0, none⟩), .pointer (some ⟨Bs, 0, none⟩), .pointer (some ⟨Bo, 0, none⟩), .pointer (some ⟨Bl, 0, none⟩), .pointer (some ⟨Bf, 0, none⟩)] W (GivesFr w W B Bw Bo Bl Bs Bf (.slice sa L.length sc) (freeL g P f l s x))
  | 0, _, _, _, _, _, _, h, _ => absurd h (Nat.not_lt_zero _)
  | f + 1, x, l, s, W, hx, hl, hu, hbf => free_step B Bw Bo Bl Bs Bf xv sa sc L w hL hP hPl hg hwk hsk h1 h2 h3 h4 f (free_any B Bw Bo Bl Bs Bf xv sa sc L w hL hP hPl hg hwk hsk h1 h2 h3 h4 f) x l s W hx hl hu hbf
theorem BF.setR {w X : World} {L : List (Nat × Array Value × TypeId)} {b : Nat} {cs : Array Value} {T : TypeId} (h : BF w X L) (hb : (b, cs, T) ∈ L) (cs' : Array Value) {L' : List (Nat × Array Value × TypeId)} (hl : ∀ y, y ∈ L' → y.1 ≠ b ∧ y ∈ L) : BF w (X.setRow b cs') ((b, cs', T) :: L') := by
  have hlt := h.lt hb
  refine ⟨h.fr.trans ⟨rfl, rfl, rfl, by simp, fun q hq => setRow_other _ _ _ _ (by omega)⟩, fun q c t hm => ?_⟩
  rcases List.mem_cons.1 hm with e | e
  · cases e; exact ⟨hlt.1, setRow_heap _ _ _ _ _ _ (h.bk _ _ _ hb).2⟩
  · obtain ⟨h1, h2⟩ := hl _ e
    exact ⟨(h.bk _ _ _ h2).1, (setRow_other _ _ _ _ h1).trans (h.bk _ _ _ h2).2⟩
theorem b8_one (t : Nat → Bool) : (b8 t).all (·.oneCell') = true := by simp [b8, eA, Value.oneCell']
theorem a8_one (t : Nat → Int) : (a8 t).all (·.oneCell') = true := by simp [a8, eA, Value.oneCell']
theorem a8_congr {t t' : Nat → Int} (h : ∀ k, k < 8 → t k = t' k) : a8 t = a8 t' := by
  unfold a8 eA
  congr 1
  exact List.map_congr_left (fun j hj => by rw [h j (List.mem_range.1 hj)])
def fillM (k : Nat) (j : Nat) : Int := if j < k then -1 else 0
theorem fillM_put (k : Nat) : putL (fillM k) k (-1) = fillM (k + 1) := by
  funext j
  unfold putL fillM
  by_cases h : j = k
  · rw [if_pos h, if_pos (by omega)]
  · rw [if_neg h]
    by_cases h2 : j < k
    · rw [if_pos h2, if_pos (by omega)]
    · rw [if_neg h2, if_neg (by omega)]
theorem match_rg {g : Nat → Nat → Bool} {P : Nat → List Nat} {F no : Nat} : ∀ i, i ≤ no → Rg no (matchL g P F i).1 ∧ (matchL g P F i).2 ≤ i
  | 0, _ => ⟨fun _ => .inl rfl, Nat.le_refl _⟩
  | i + 1, h => by
    obtain ⟨h1, h2⟩ := match_rg (g := g) (P := P) (F := F) (no := no) i (by omega)
    refine ⟨(free_ok (g := g) (P := P) F (matchL g P F i).1 (fun _ => false) i (by omega) h1).rg, ?_⟩
    simp only [matchL]
    split <;> omega
theorem results_cell_tmp {P : Program} {fn : Func} {p q : Tmp} {ty : TypeId} (h : fn.results = #[.cell p ty, .tmp q]) (tmps : Array Value) (w : World) (g : Nat) (t : TypeId) (cs : Array Value) (fr : Nat × Nat) (d : TypeDesc)
    (hp : tmps.getD p undef = .pointer (some ⟨g, 0, none⟩)) (hg : w.heap[g]? = some (.cells cs t fr)) (v : Value) (hq : tmps.getD q undef = v)
    (hu : P.underlying ty = some d) (hd : (match d with | .struct _ | .array _ _ => true | _ => false) = true) (hi : (P.info? ty).map (·.size) = some cs.size) :
    (results fn tmps).run P w = .ok (.tuple #[.agg cs, v]) w := by
  have hp' : tmps[p]?.getD undef = .pointer (some ⟨g, 0, none⟩) := by simpa using hp
  have hq' : tmps[q]?.getD undef = v := by simpa using hq
  simp [results, h, hp', hq', asAddr, run_loadVar_row w g t ty cs fr d hg hu hd hi]
theorem unseen_none : unseen 8 (fun _ => false) < 9 := by decide
set_option maxRecDepth 100000 in
set_option maxHeartbeats 16000000 in
theorem match_any {g : Nat → Nat → Bool} {P : Nat → List Nat} {no nw : Nat} (B : Nat) (xv : WkV) (sa : Option Addr) (sc : Nat) (L : List (Int × Int)) (w : World) (hno : no ≤ 8) (hL : L.length ≤ 100000)
    (hP : ∀ i k, k ∈ P i → k < 8) (hPl : ∀ i, (P i).length ≤ 8) (hg : ∀ i k, k ∈ P i → g i k = !SK L i k) (hwk : WkAt w B xv no nw P) (hsk : SkIn w (.slice sa L.length sc) L) :
    Calls Tryz.prog 80 #[.pointer (some ⟨B, 0, none⟩), .slice sa L.length sc] w fun e w' => e = .returned (.tuple #[.agg (a8 (matchL g P 9 no).1), .int .i64 ((matchL g P 9 no).2 : Int)]) ∧ Below w.heap.size w w' := by
  have HFR := Lib.hid (fun BO BL BS (h1 : w.heap.size < BO) (h2 : BO < BL) (h3 : BL < BS) => free_any (g := g) B w.heap.size BO BL BS (BS + 1) xv sa sc L w hL hP hPl hg hwk hsk h1 h2 h3 (Nat.lt_succ_self _))
  have HWK := Lib.hid hwk
  have hB := hwk.lt
  clear hP hPl hg hwk hsk
  have HA0 : Hid (BF w (((w.alloc (.cells #[.pointer (some ⟨B, 0, none⟩)] 114)).alloc (.cells #[.slice sa L.length sc] 168)).alloc (.cells (a8 (fillM 0)) 134)) [(w.heap.size, #[.pointer (some ⟨B, 0, none⟩)], 114), (w.heap.size + 1, #[.slice sa L.length sc], 168), (w.heap.size + 2, a8 (fillM 0), 134)]) := BF.made3 _ _ _ _ _ _ _
  have HZ8 : Hid (a8 (fillM 0) = #[.int .i64 0, .int .i64 0, .int .i64 0, .int .i64 0, .int .i64 0, .int .i64 0, .int .i64 0, .int .i64 0]) := by rfl
  go_enter Tryz.func80, Tryz.ntmps80
  rw [HZ8.out] at HA0
  go_wp2_with fail
  have hsz0 : (((w.alloc (.cells #[.pointer (some ⟨B, 0, none⟩)] 114)).alloc (.cells #[.slice sa L.length sc] 168)).alloc (.cells #[.int .i64 0, .int .i64 0, .int .i64 0, .int .i64 0, .int .i64 0, .int .i64 0, .int .i64 0, .int .i64 0] 134)).heap.size = w.heap.size + 3 := by simp
  generalize (((w.alloc (.cells #[.pointer (some ⟨B, 0, none⟩)] 114)).alloc (.cells #[.slice sa L.length sc] 168)).alloc (.cells #[.int .i64 0, .int .i64 0, .int .i64 0, .int .i64 0, .int .i64 0, .int .i64 0, .int .i64 0, .int .i64 0] 134)) = w0 at *
  rw [← HZ8.out] at HA0
  clear HZ8
  obtain ⟨BL, hBL⟩ : ∃ BL, w.heap.size + 1 + 1 = BL := ⟨_, rfl⟩
  rw [show w.heap.size + 2 = w.heap.size + 1 + 1 from rfl, hBL] at HA0
  rw [hBL]
  have HBL := Lib.hid hBL
  have hOL : w.heap.size + 1 < BL := by omega
  clear hBL
  obtain ⟨BO, hBO⟩ : ∃ BO, w.heap.size + 1 = BO := ⟨_, rfl⟩
  rw [hBO] at HA0 hOL ⊢
  have HBO := Lib.hid hBO
  have hWO : w.heap.size < BO := by omega
  clear hBO
  go_loopw [10] (fun i wr => ∃ k : Nat, i = .int .i64 k ∧ k ≤ 8 ∧ BF w wr [(BL, a8 (fillM k), 134), (w.heap.size, #[.pointer (some ⟨B, 0, none⟩)], 114), (BO, #[.slice sa L.length sc], 168)]) (fun i _ => 8 - (intOf i).toNat)
  case atStart => exact ⟨0, rfl, Nat.zero_le _, HA0.out.sub (List.forall_mem_cons.2 ⟨(.tail _ (.tail _ (.head _))), List.forall_mem_cons.2 ⟨(.head _), List.forall_mem_cons.2 ⟨(.tail _ (.head _)), List.forall_mem_nil _⟩⟩⟩)⟩
  case round =>
    clear HA0
    obtain ⟨k, rfl, hk, hbf⟩ := hrel
    rename World => wx
    have HA1 := Lib.hid hbf
    clear hbf
    have hlW := (HA1.out.lt (.tail _ (.head _))).2
    have hlO := (HA1.out.lt (.tail _ (.tail _ (.head _)))).2
    have hlL := (HA1.out.lt (.head _)).2
    by_cases hlt : k < 8
    · have e0 := (HA1.out.cell (.head _) k).trans (a8_get _ hlt)
      have f0 := HA1.out.thaw (.head _) k
      have ki : (0 : Int) ≤ (k : Int) := by omega
      have kj : (k : Int) < 8 := by omega
      have HA2 := Lib.hid (BF.set1 (i := k) (cs' := a8 (fillM (k + 1))) HA1.out (.head _) (.int .i64 (-1)) (by rw [a8_size]; exact hlt) (by rw [a8_set _ _ hlt, fillM_put]) (L' := [(w.heap.size, #[.pointer (some ⟨B, 0, none⟩)], 114), (BO, #[.slice sa L.length sc], 168)]) (List.forall_mem_cons.2 ⟨⟨show w.heap.size ≠ BL by omega, (.tail _ (.head _))⟩, List.forall_mem_cons.2 ⟨⟨show BO ≠ BL by omega, (.tail _ (.tail _ (.head _)))⟩, List.forall_mem_nil _⟩⟩))
      go_wp2_with fail
      go_roundw
      case rel => exact ⟨k + 1, by go_num, by omega, HA2.out⟩
      case measure => simp [intOf]; omega
    · have hk8 : k = 8 := by omega
      have hk8i : (k : Int) = 8 := by omega
      rw [hk8i]
      rw [hk8] at HA1
      clear hk8 hk8i hk hlt hlL
      have hlL := (HA1.out.lt (.head _)).2
      have c0 := HA1.out.cell (.tail _ (.head _)) 0
      have b0 := kept HA1.out.fr hB HWK.out.c0
      have hBx : B < wx.heap.size := Nat.lt_of_lt_of_le hB HA1.out.fr.size
      have HA2 : Hid (BF w wx [(BL, a8 (fun _ => -1), 134), (w.heap.size, #[.pointer (some ⟨B, 0, none⟩)], 114), (BO, #[.slice sa L.length sc], 168)]) := by
        rw [show a8 (fun _ => -1) = a8 (fillM 8) from a8_congr fun k hk => by unfold fillM; rw [if_pos hk]]
        exact HA1.out
      have HB0 : Hid (b8 (fun _ => false) = #[.bool false, .bool false, .bool false, .bool false, .bool false, .bool false, .bool false, .bool false]) := by rfl
      have HA3 := Lib.hid ((HA2.out.alloc (b8 (fun _ => false)) 149).alloc #[.func (.func 110) #[] #[.pointer (some ⟨w.heap.size, 0, none⟩), .pointer (some ⟨wx.heap.size, 0, none⟩), .pointer (some ⟨BO, 0, none⟩), .pointer (some ⟨BL, 0, none⟩), .pointer (some ⟨wx.heap.size + 1, 0, none⟩)]] 146)
      rw [HB0.out, World.size_alloc] at HA3
      clear HA1 HA2
      go_wp2_with fail
      generalize ((wx.alloc (.cells #[.bool false, .bool false, .bool false, .bool false, .bool false, .bool false, .bool false, .bool false] 149)).alloc (.cells #[.func (.func 110) #[] #[.pointer (some ⟨w.heap.size, 0, none⟩), .pointer (some ⟨wx.heap.size, 0, none⟩), .pointer (some ⟨BO, 0, none⟩), .pointer (some ⟨BL, 0, none⟩), .pointer (some ⟨wx.heap.size + 1, 0, none⟩)]] 146)) = w1 at *
      rw [← HB0.out] at HA3
      generalize wx.heap.size = BS at *
      have HFA := Lib.hid (HFR.out BO BL BS hWO hOL hlL)
      have HFL0 : Hid (FL B w.heap.size BO BL BS (BS + 1) (.slice sa L.length sc) (fun _ => -1) (fun _ => false) = [(BS, b8 (fun _ => false), 149), (BL, a8 (fun _ => -1), 134), (w.heap.size, #[.pointer (some ⟨B, 0, none⟩)], 114), (BO, #[.slice sa L.length sc], 168),
        (BS + 1, #[.func (.func 110) #[] #[.pointer (some ⟨w.heap.size, 0, none⟩), .pointer (some ⟨BS, 0, none⟩), .pointer (some ⟨BO, 0, none⟩), .pointer (some ⟨BL, 0, none⟩), .pointer (some ⟨BS + 1, 0, none⟩)]], 146)]) := rfl
      have HA4 : Hid (BF w w1 (FL B w.heap.size BO BL BS (BS + 1) (.slice sa L.length sc) (fun _ => -1) (fun _ => false))) := by rw [HFL0.out]; exact HA3.out.sub (List.forall_mem_cons.2 ⟨(.tail _ (.head _)), List.forall_mem_cons.2 ⟨(.tail _ (.tail _ (.head _))), List.forall_mem_cons.2 ⟨(.tail _ (.tail _ (.tail _ (.head _)))), List.forall_mem_cons.2 ⟨(.tail _ (.tail _ (.tail _ (.tail _ (.head _))))), List.forall_mem_cons.2 ⟨(.head _), List.forall_mem_nil _⟩⟩⟩⟩⟩)
      clear HA3 HFL0 HFR HB0 c0 b0
      go_loopw [5, 23] (fun z i wr => ∃ (k : Nat) (s : Nat → Bool), i = .int .i64 k ∧ k ≤ no ∧ z = .int .i64 ((matchL g P 9 k).2 : Int) ∧ BF w wr (FL B w.heap.size BO BL BS (BS + 1) (.slice sa L.length sc) (matchL g P 9 k).1 s)) (fun _ i _ => no - (intOf i).toNat)
      case atStart => exact ⟨0, fun _ => false, rfl, Nat.zero_le _, rfl, HA4.out⟩
      case round =>
        clear HA4
        obtain ⟨k, s, rfl, hk, rfl, hbf⟩ := hrel
        rename World => wy
        obtain ⟨hrg, hn2⟩ := match_rg (g := g) (P := P) (F := 9) (no := no) k hk
        have HRG := Lib.hid hrg
        have HA4 := Lib.hid hbf
        clear hbf hrg
        have HSZ : Hid ((Tryz.prog.info? 149).map (·.size) = some (b8 (fun _ => false)).size) := by unfold Hid; rw [b8_size]; kernel_rfl
        have HSL : Hid ((Tryz.prog.info? 134).map (·.size) = some (a8 (matchL g P 9 k).1).size) := by unfold Hid; rw [a8_size]; kernel_rfl
        by_cases hlt : k < no
        · have HM1 : Hid ((matchL g P 9 (k + 1)).1 = (freeL g P 9 (matchL g P 9 k).1 (fun _ => false) k).2.1) := rfl
          have HM2 : Hid ((matchL g P 9 (k + 1)).2 = if (freeL g P 9 (matchL g P 9 k).1 (fun _ => false) k).1 = true then (matchL g P 9 k).2 + 1 else (matchL g P 9 k).2) := rfl
          generalize hl0 : (matchL g P 9 k).1 = l0 at *
          generalize hn0 : (matchL g P 9 k).2 = n0 at *
          clear hl0 hn0 HSL
          have HB : Hid (wy.heap[BS]? = some (.cells (b8 s) 149 (0, 0))) := (HA4.out.bk BS _ _ (.head _)).2
          have HZ : Hid ((b8 s).size = (b8 (fun _ => false)).size) := by unfold Hid; rw [b8_size, b8_size]
          have ki : (0 : Int) ≤ (k : Int) := by omega
          have kj : (k : Int) < (no : Int) := by omega
          have HA5 := Lib.hid (HA4.out.setR (b := BS) (.head _) (b8 (fun _ => false)) (L' := [(BL, a8 l0, 134), (w.heap.size, #[.pointer (some ⟨B, 0, none⟩)], 114), (BO, #[.slice sa L.length sc], 168),
            (BS + 1, #[.func (.func 110) #[] #[.pointer (some ⟨w.heap.size, 0, none⟩), .pointer (some ⟨BS, 0, none⟩), .pointer (some ⟨BO, 0, none⟩), .pointer (some ⟨BL, 0, none⟩), .pointer (some ⟨BS + 1, 0, none⟩)]], 146)]) (List.forall_mem_cons.2 ⟨⟨show BL ≠ BS by omega, (.tail _ (.head _))⟩, List.forall_mem_cons.2 ⟨⟨show w.heap.size ≠ BS by omega, (.tail _ (.tail _ (.head _)))⟩, List.forall_mem_cons.2 ⟨⟨show BO ≠ BS by omega, (.tail _ (.tail _ (.tail _ (.head _))))⟩, List.forall_mem_cons.2 ⟨⟨show BS + 1 ≠ BS by omega, (.tail _ (.tail _ (.tail _ (.tail _ (.head _)))))⟩, List.forall_mem_nil _⟩⟩⟩⟩))
          have HB8 : Hid (#[.bool false, .bool false, .bool false, .bool false, .bool false, .bool false, .bool false, .bool false] = b8 (fun _ => false)) := by rfl
          go_upto_region 12 with fail
          refine wp_region_lit ?_
          refine wpList_build (o := ⟨some 26, _, _, _, _, _⟩) rfl 149 #[] rfl (by kernel_rfl) ?_
          refine wpList_store_row (o := ⟨none, _, _, _, _, _⟩) rfl 149 (.tmp 7) (.tmp 26) rfl BS (b8 (fun _ => false)) rfl (by kernel_rfl) 149 (b8 s) HB.out HSZ.out HZ.out (b8_one _) ?_
          generalize wy.setRow BS (b8 (fun _ => false)) = wz at *
          have g0 := HA5.out.cell (.tail _ (.tail _ (.tail _ (.tail _ (.head _))))) 0
          try simp only [Act.put, putA, putZ, putS]
          go_wp2_with fail
          refine (HFA.out 9 k l0 (fun _ => false) wz hlt HRG.out unseen_none (HA5.out.sub (List.forall_mem_cons.2 ⟨(.head _), List.forall_mem_cons.2 ⟨(.tail _ (.head _)), List.forall_mem_cons.2 ⟨(.tail _ (.tail _ (.head _))), List.forall_mem_cons.2 ⟨(.tail _ (.tail _ (.tail _ (.head _)))), List.forall_mem_cons.2 ⟨(.tail _ (.tail _ (.tail _ (.tail _ (.head _))))), List.forall_mem_nil _⟩⟩⟩⟩⟩))).mono ?_
          rintro _ w6 ⟨rfl, hb6, _⟩
          have HA6 := Lib.hid hb6
          clear hb6 HA5 HA4 g0 HB HZ HSZ HB8
          generalize freeL g P 9 l0 (fun _ => false) k = r at *
          cases hr : r.1
          · rw [hr] at HM2
            have HM3 : Hid ((matchL g P 9 (k + 1)).2 = n0) := HM2.out
            go_wp2_with fail
            go_roundw
            case rel => exact ⟨k + 1, r.2.2, by go_num, by omega, by rw [HM3.out], by rw [HM1.out]; exact HA6.out⟩
            case measure => simp [intOf]; omega
          · rw [hr] at HM2
            have HM3 : Hid ((matchL g P 9 (k + 1)).2 = n0 + 1) := HM2.out
            go_wp2_with fail
            go_roundw
            case rel => exact ⟨k + 1, r.2.2, by go_num, by omega, by rw [HM3.out]; go_num, by rw [HM1.out]; exact HA6.out⟩
            case measure => simp [intOf]; omega
        · obtain rfl : k = no := by omega
          have HL := Lib.hid (HA4.out.bk BL _ _ (.tail _ (.head _))).2
          have HSM : Hid ((a8 (matchL g P 9 k).1).size = (a8 (matchL g P 9 k).1).size) := rfl
          have HFR2 := Lib.hid (HA4.out.setR (b := BL) (.tail _ (.head _)) (a8 (matchL g P 9 k).1) (L' := []) (List.forall_mem_nil _))
          have HZ1 := Lib.hid (a8_one (matchL g P 9 k).1)
          clear HA4
          have HQ1 : Hid (∀ a b, a = (matchL g P 9 k).1 → b = (matchL g P 9 k).2 → (Value.tuple #[.agg (a8 a), .int .i64 (b : Int)]) = .tuple #[.agg (a8 (matchL g P 9 k).1), .int .i64 ((matchL g P 9 k).2 : Int)]) := fun a b h1 h2 => by rw [h1, h2]
          obtain ⟨lm, hlm⟩ : ∃ lm, (matchL g P 9 k).1 = lm := ⟨_, rfl⟩
          obtain ⟨nm, hnm⟩ : ∃ nm, (matchL g P 9 k).2 = nm := ⟨_, rfl⟩
          rw [hlm] at HL HSM HFR2 HZ1 HSL
          rw [hnm]
          have HE1 := Lib.hid (HQ1.out lm nm hlm.symm hnm.symm)
          clear hlm hnm HQ1
          go_upto_region 16 with fail
          refine wp_region_lit ?_
          refine wpList_load_row (o := ⟨some 33, _, _, _, _, _⟩) rfl 134 (.tmp 4) rfl BL rfl 134 (a8 lm) (0, 0) _ HL.out Tryz.underlying134 rfl HSL.out ?_
          try simp only [Act.put, putA, putZ, putS]
          go_wp2_with (refine wpList_store_row (o := ⟨none, _, _, _, _, _⟩) rfl 134 (.tmp 4) (.tmp 33) rfl BL (a8 lm) rfl rfl 134 (a8 lm) HL.out HSL.out HSM.out HZ1.out ?_; generalize wy.setRow BL (a8 lm) = wz at *)
          have hrow := (HFR2.out.bk BL _ _ (.head _)).2
          exact bodyPost_ret (v := .tuple #[.agg (a8 lm), .int .i64 (nm : Int)]) (results_cell_tmp rfl _ _ BL 134 (a8 lm) (0, 0) _ rfl hrow _ rfl Tryz.underlying134 rfl HSL.out) rfl ⟨by rw [HE1.out], HFR2.out.fr⟩
end Go.Proofs.YtgbdbikjckfgmaaGreat
