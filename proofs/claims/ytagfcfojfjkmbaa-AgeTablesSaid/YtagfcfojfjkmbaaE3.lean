/- AgeHeaped: the walk. -/
import Derived.Test.YtagfcfojfjkmbaaE1
namespace Go.Proofs.Ytagfcfojfjkmbaa
open Go.RowKit Go.Shelf

/-- What a slice of bytes of the caller's reads as. -/
def BytesIn (w : World) (sv : Value) (n : Nat) (z : Nat → Int) : Prop :=
  (∃ a cap, sv = .slice a 0 cap ∧ n = 0) ∨ ∃ b off cap, sv = .slice (some ⟨b, off, none⟩) n cap ∧ b < w.heap.size ∧ ∀ j, j < n → w.cell? ⟨b, off + j, none⟩ = some (.int .u8 (z j)) ∧ 0 ≤ z j ∧ z j ≤ 255
theorem BytesIn.len {w : World} {sv : Value} {n : Nat} {z : Nat → Int} (h : BytesIn w sv n z) : ∃ a cap, sv = .slice a n cap := by
  rcases h with ⟨a, cap, rfl, rfl⟩ | ⟨b, off, cap, rfl, _⟩
  · exact ⟨_, _, rfl⟩
  · exact ⟨_, _, rfl⟩
theorem BytesIn.at {w w' : World} {a : Option Addr} {n cap : Nat} {z : Nat → Int} (h : BytesIn w (.slice a n cap) n z) (hb : Below w.heap.size w w') {k : Nat} (hk : k < n) : ∃ b off, a = some ⟨b, off, none⟩ ∧ w'.cell? ⟨b, off + k, none⟩ = some (.int .u8 (z k)) ∧ 0 ≤ z k ∧ z k ≤ 255 := by
  rcases h with ⟨_, _, _, h⟩ | ⟨b', o', c', e, hb', hz⟩
  · omega
  · cases e; exact ⟨b', o', rfl, (hb.cell (p := ⟨b', _, none⟩) hb').trans (hz k hk).1, (hz k hk).2⟩
set_option maxRecDepth 100000 in
theorem open_bytesIn {H : Type} {enc : TypeId × Value → H} {W : World} {base : Nat} {v : Value} {d : DataW H} {p : List MemPlace} (hv : Value.okWide Try.prog W .any base 66 v) (h : DataW.Trod enc Try.prog W 0 (fun _ => true) true 66 v d p) :
    ∃ n z, BytesIn W v n z ∧ n ≤ maxLen := by
  obtain ⟨a0, len, cap, rfl⟩ := Go.WideShapes.okWide_slice Try.underlying66 hv
  obtain ⟨fuel, hf⟩ := h
  rcases Go.ChangeShapes.open_ints Try.underlying66 Try.underlying5 (by kernel_rfl) hf with ⟨hcs, hx⟩ | ⟨a, len', cap', zs, hcs, _, hl, hm, hz, hx, hcell, hwz⟩
  · simp [Value.cells] at hcs
    obtain ⟨rfl, rfl, rfl⟩ := hcs
    exact ⟨0, fun _ => 0, .inl ⟨_, _, rfl, rfl⟩, Nat.zero_le _⟩
  · simp [Value.cells] at hcs
    obtain ⟨rfl, rfl, rfl⟩ := hcs
    simp only [if_true] at hz
    rcases Nat.eq_zero_or_pos len with rfl | hpos
    · exact ⟨0, fun _ => 0, .inl ⟨_, cap, rfl, rfl⟩, Nat.zero_le _⟩
    · obtain ⟨b, off, rfl, hc⟩ := ints_at hcell (by omega)
      have hbs : b < W.heap.size := World.block_lt_of_cell? W ⟨b, off + 0, none⟩ (hc 0 (by omega))
      refine ⟨len, fun j => zs.getD j 0, .inr ⟨b, off, cap, rfl, hbs, fun j hj => ⟨hc j (by omega), ?_⟩⟩, by omega⟩
      have := hwz (zs.getD j 0) (by
        have e : zs.getD j 0 = zs[j]'(by omega) := by simp [show j < zs.length by omega]
        rw [e]; exact List.getElem_mem _)
      exact bounds_u8 this

theorem App.self {X w1 : World} {v v' : Value} {out : List Int} {i : Int} (h : App X w1 v out i v') : IL w1 v out := by
  obtain ⟨h1, _, _, _, h5⟩ := h
  exact h5 w1 w1.heap.size (fun c hc => by rw [Array.getElem?_eq_none (Nat.le_refl _)] at hc; cases hc) h1 (Fr.refl _ _)
/-- Two rows apart. -/
def Apart (v u : Value) : Prop := ∀ q, v.ownBlock = some q → u.ownBlock ≠ some q
theorem Apart.symm {v u : Value} (h : Apart v u) : Apart u v := fun q hq e => h q e hq
theorem App.other {X w1 : World} {v v' u : Value} {out l : List Int} {i : Int} (h : App X w1 v out i v') (ha : Apart v u) (hu : IL X u l) : IL w1 u l :=
  own_fr hu h.2.1 (fun g _ hg _ _ e => ha g e hg)
theorem IL.blk {W : World} {v : Value} {l : List Int} (h : IL W v l) : ∀ q, v.ownBlock = some q → q < W.heap.size := fun q hq => by
  rcases h.2 with ⟨rfl, _⟩ | ⟨g, cap, cur, rfl, _, hc, _⟩
  · cases hq
  · cases hq; exact (Array.getElem?_eq_some_iff.1 hc).1
theorem App.apart {X w1 : World} {v v' u : Value} {out l : List Int} {i : Int} (h : App X w1 v out i v') (ha : Apart v u) (hu : IL X u l) : Apart v' u := fun q hq e => by
  rcases h.2.2.2.1 with h4 | h4
  · exact ha q (h4 ▸ hq) e
  · have := h4 q hq; have := hu.blk q e; omega
theorem App.low {X w1 : World} {v v' : Value} {out : List Int} {i : Int} {B : Nat} (h : App X w1 v out i v') (hv : ∀ q, v.ownBlock = some q → B ≤ q) (hB : B ≤ X.heap.size) : ∀ q, v'.ownBlock = some q → B ≤ q := fun q hq => by
  rcases h.2.2.2.1 with h4 | h4
  · exact hv q (h4 ▸ hq)
  · have := h4 q hq; omega

/-- Both lists of the law. -/
def Both (w : World) (la lb : List Int) (v u : Value) (W : World) : Prop :=
  IL W v la ∧ IL W u lb ∧ Apart v u ∧ (∀ q, v.ownBlock = some q → w.heap.size ≤ q) ∧ (∀ q, u.ownBlock = some q → w.heap.size ≤ q) ∧ Below w.heap.size w W
theorem Both.below {w W X : World} {la lb : List Int} {v u : Value} (h : Both w la lb v u W) (hX : Below W.heap.size W X) : Both w la lb v u X :=
  ⟨h.1.below hX, h.2.1.below hX, h.2.2.1, h.2.2.2.1, h.2.2.2.2.1, h.2.2.2.2.2.trans (hX.mono h.2.2.2.2.2.size)⟩
theorem Both.first {w X w1 : World} {la lb : List Int} {v v' u : Value} {i : Int} (h : Both w la lb v u X) (ha : App X w1 v la i v') : Both w la lb v u w1 ∧ Both w (la ++ [i]) lb v' u w1 := by
  obtain ⟨h1, h2, h3, h4, h5, h6⟩ := h
  have hb : Below w.heap.size w w1 := h6.trans (ha.2.1.low h6.size (fun q hq e => by have := h4 q e; omega))
  exact ⟨⟨ha.self, ha.other h3 h2, h3, h4, h5, hb⟩, ⟨ha.1, ha.other h3 h2, ha.apart h3 h2, ha.low h4 h6.size, h5, hb⟩⟩
theorem Both.second {w X w1 : World} {la lb : List Int} {v u u' : Value} {i : Int} (h : Both w la lb v u X) (ha : App X w1 u lb i u') : Both w la lb v u w1 ∧ Both w la (lb ++ [i]) v u' w1 := by
  obtain ⟨h1, h2, h3, h4, h5, h6⟩ := h
  have hb : Below w.heap.size w w1 := h6.trans (ha.2.1.low h6.size (fun q hq e => by have := h5 q e; omega))
  exact ⟨⟨ha.other h3.symm h1, ha.self, h3, h4, h5, hb⟩, ⟨ha.other h3.symm h1, ha.1, (ha.apart h3.symm h1).symm, h4, ha.low h5 h6.size, hb⟩⟩

def upTo (z : Nat → Int) (k : Nat) : List Int := (List.range k).map z
theorem upTo_succ (z : Nat → Int) (k : Nat) : upTo z (k + 1) = upTo z k ++ [z k] := by simp [upTo, List.range_succ]
theorem upTo_length (z : Nat → Int) (k : Nat) : (upTo z k).length = k := by simp [upTo]
theorem IL.upTo {W : World} {v : Value} {z : Nat → Int} {n : Nat} (h : IL W v (upTo z n)) : IntsAt W v n z := by
  have := h.ints
  rw [upTo_length] at this
  exact this.congr (fun j hj => by simp [Proofs.Ytagfcfojfjkmbaa.upTo, hj])

theorem IntsAt.into {w : World} {v : Value} {n : Nat} {z : Nat → Int} (h : IntsAt w v n z) : IntsIn w v n z := by
  rcases h with h | h
  · exact .inl h
  · exact .inr (.inr h)
theorem heap_all {z : Nat → Int} {base : Int} {n : Nat} (h : ∀ j, j < n → z j % base = 0) : heapN z base n = n := by
  induction n with
  | zero => rfl
  | succ n ih => rw [heapN, if_pos (h n (by omega)), ih (fun j hj => h j (by omega))]
theorem heapE_ok {z : Nat → Int} {base : Int} {n : Nat} (h0 : 0 < n) (h1 : n ≤ 200) (hb : 1 ≤ base) (hb2 : base ≤ 12) (h : ∀ j, j < n → 0 ≤ z j ∧ z j ≤ 140) : heapE z n base = 0 := by
  unfold heapE
  rw [if_neg (by omega), if_neg (by simp [inB]; omega), if_neg (by
    rw [allB_true]
    · decide
    · intro q hq; have := h q hq; simp [inB]; omega), if_neg (by omega)]
theorem heapR_all {z : Nat → Int} {base : Int} {n : Nat} (h0 : 0 < n) (h1 : n ≤ 200) (hb : 1 ≤ base) (hb2 : base ≤ 12) (h : ∀ j, j < n → 0 ≤ z j ∧ z j ≤ 140) (hm : ∀ j, j < n → z j % base = 0) : heapR z n base = 1000 * base := by
  unfold heapR
  rw [if_pos (heapE_ok h0 h1 hb hb2 h), heap_all hm, Int.mul_assoc, Int.mul_ediv_cancel_left _ (by omega), Int.mul_comm]
theorem heapR_bd {z : Nat → Int} {base : Int} {n : Nat} (h0 : 0 < n) (h1 : n ≤ 200) (hb : 1 ≤ base) (hb2 : base ≤ 12) (h : ∀ j, j < n → 0 ≤ z j ∧ z j ≤ 140) : 0 ≤ heapR z n base ∧ heapR z n base ≤ 1000 * base := by
  unfold heapR
  rw [if_pos (heapE_ok h0 h1 hb hb2 h)]
  have hle := heapN_le z base n
  constructor
  · exact Int.ediv_nonneg (Int.mul_nonneg (Int.mul_nonneg (by omega) (by omega)) (by omega)) (by omega)
  · refine Int.ediv_le_of_le_mul (by omega) ?_
    have e : 1000 * base * (n : Int) = (n : Int) * (base * 1000) := by rw [Int.mul_comm (1000 * base), Int.mul_comm 1000 base]
    rw [e, Int.mul_assoc]
    exact Int.mul_le_mul_of_nonneg_right (by omega) (Int.mul_nonneg (by omega) (by omega))
end Go.Proofs.Ytagfcfojfjkmbaa
