/- Words; word. -/
import Derived.Test.YtagfcfojfjkmbaaI5
import Derived.Test.YtagfcfojfjkmbaaN6
namespace Go.Proofs.Ytagfcfojfjkmbaa
open Go.RowKit Go.Shelf

theorem own_lt {X : World} {base E size n : Nat} {v : Value} {xs : List Value} (h : X.ownsRow base E size v n xs) {q : Nat} (e : v.ownBlock = some q) : q < X.heap.size := by
  rcases h.2 with ⟨rfl, _⟩ | ⟨g, cap, cur, rfl, hg, hc, _⟩
  · cases e
  · cases e; exact (Array.getElem?_eq_some_iff.1 hc).1
theorem own_type_ne {X : World} {base E size n B : Nat} {v : Value} {xs : List Value} {cs : Array Value} {t : TypeId} (h : X.ownsRow base E size v n xs) (hb : X.heap[B]? = some (.cells cs t (0, 0))) (ht : t ≠ E) : ¬ v.ownBlock = some B := by
  intro e
  rcases h.2 with ⟨rfl, _⟩ | ⟨g, cap, cur, rfl, hg, hc, _⟩
  · cases e
  · cases e
    rw [hb] at hc
    cases hc
    exact ht rfl
theorem own_type_ne' {X : World} {g B : Nat} {cs cur : Array Value} {t E : TypeId} (hb : X.heap[B]? = some (.cells cs t (0, 0))) (hg : X.heap[g]? = some (.cells cur E (0, 0))) (ht : t ≠ E) : ¬ g = B := by
  rintro rfl
  rw [hb] at hg
  cases hg
  exact ht rfl
theorem set4 {X : World} {B : Nat} {a b c d : Value} {t : TypeId} (h : X.heap[B]? = some (.cells #[a, b, c, d] t (0, 0))) (a' b' c' d' : Value) :
    ((((X.setCell ⟨B, 0, none⟩ a').setCell ⟨B, 1, none⟩ b').setCell ⟨B, 2, none⟩ c').setCell ⟨B, 3, none⟩ d').heap[B]? = some (.cells #[a', b', c', d'] t (0, 0)) := by
  simp [World.setCell, Array.getElem?_modify, h]

/-- What a slice of words of the caller's reads as. -/
def WordsIn (w : World) (sv : Value) (n : Nat) (z : Nat → Int) : Prop :=
  (∃ a cap, sv = .slice a 0 cap ∧ n = 0) ∨ ∃ b off cap, sv = .slice (some ⟨b, off, none⟩) n cap ∧ b < w.heap.size ∧ ∀ j, j < n → w.cell? ⟨b, off + j, none⟩ = some (.int .u16 (z j)) ∧ 0 ≤ z j ∧ z j ≤ 65535
theorem WordsIn.len {w : World} {sv : Value} {n : Nat} {z : Nat → Int} (h : WordsIn w sv n z) : ∃ a cap, sv = .slice a n cap := by
  rcases h with ⟨a, cap, rfl, rfl⟩ | ⟨b, off, cap, rfl, _⟩
  · exact ⟨_, _, rfl⟩
  · exact ⟨_, _, rfl⟩
theorem WordsIn.below {w w' : World} {sv : Value} {n : Nat} {z : Nat → Int} (h : WordsIn w sv n z) (hB : Below w.heap.size w w') : WordsIn w' sv n z := by
  rcases h with h | ⟨b, off, cap, rfl, hb, hz⟩
  · exact .inl h
  · exact .inr ⟨b, off, cap, rfl, Nat.lt_of_lt_of_le hb hB.size, fun j hj => ⟨kept hB hb (hz j hj).1, (hz j hj).2⟩⟩
set_option maxRecDepth 100000 in
theorem open_wordsIn {H : Type} {enc : TypeId × Value → H} {W : World} {base : Nat} {v : Value} {d : DataW H} {p : List MemPlace} (hv : Value.okWide Try.prog W .any base 85 v) (h : DataW.Trod enc Try.prog W 0 (fun _ => true) true 85 v d p) :
    ∃ n z, WordsIn W v n z ∧ n ≤ maxLen := by
  obtain ⟨a0, len, cap, rfl⟩ := Go.WideShapes.okWide_slice Try.underlying85 hv
  obtain ⟨fuel, hf⟩ := h
  rcases Go.ChangeShapes.open_ints Try.underlying85 Try.underlying86 (by kernel_rfl) hf with ⟨hcs, hx⟩ | ⟨a, len', cap', zs, hcs, _, hl, hm, hz, hx, hcell, hwz⟩
  · simp [Value.cells] at hcs
    obtain ⟨rfl, rfl, rfl⟩ := hcs
    exact ⟨0, fun _ => 0, .inl ⟨_, _, rfl, rfl⟩, Nat.zero_le _⟩
  · simp [Value.cells] at hcs
    obtain ⟨rfl, rfl, rfl⟩ := hcs
    simp only [if_true] at hz
    rcases Nat.eq_zero_or_pos len with rfl | hpos
    · exact ⟨0, fun _ => 0, .inl ⟨_, cap, rfl, rfl⟩, Nat.zero_le _⟩
    · obtain ⟨b, off, rfl, hc⟩ := ints_at hcell (by omega)
      have hbs : b < W.heap.size := World.block_lt_of_cell? W ⟨b, off + 0, none⟩ (hc 0 (by omega))
      refine ⟨len, fun j => zs.getD j 0, .inr ⟨b, off, cap, rfl, hbs, fun j hj => ⟨hc j (by omega), ?_⟩⟩, by omega⟩
      have := hwz (zs.getD j 0) (by
        have e : zs.getD j 0 = zs[j]'(by omega) := by simp [show j < zs.length by omega]
        rw [e]; exact List.getElem_mem _)
      exact bounds_u16 this

/-- One of some words. -/
def wordF (n : Nat) (z : Nat → Int) (i : Int) : Int := if n = 0 then 0 else z (i % (n : Int)).toNat
theorem wordF_bd {w : World} {v : Value} {n : Nat} {z : Nat → Int} (h : WordsIn w v n z) (i : Int) : 0 ≤ wordF n z i ∧ wordF n z i ≤ 65535 := by
  unfold wordF
  split
  · omega
  · rename_i h0
    have h1 := Int.emod_nonneg i (show (n : Int) ≠ 0 by omega)
    have h2 := Int.emod_lt_of_pos i (show (0 : Int) < (n : Int) by omega)
    rcases h with ⟨_, _, _, h⟩ | ⟨_, _, _, _, _, hz⟩
    · omega
    · exact (hz _ (by omega)).2
set_option maxHeartbeats 1000000 in
theorem word_any (v : Value) (n : Nat) (z : Nat → Int) (i : Int) (w : World) (h : WordsIn w v n z) (hn : n ≤ maxLen) (hi : 0 ≤ i) (hi2 : i ≤ 1000000000) :
    Calls Try.prog 85 #[v, .int .i64 i] w fun e w' => e = .returned (.int .i64 (wordF n z i)) ∧ w = w' := by
  unfold maxLen at hn
  obtain ⟨a, cap, rfl⟩ := h.len
  by_cases h0 : n = 0
  · have HW : Hid (wordF n z i = 0) := by unfold Hid wordF; rw [if_pos h0]
    subst h0
    clear h
    go_enter Try.func85, Try.ntmps85
    go_wp2
    go_ret
    exact ⟨ret_int HW.out.symm, rfl⟩
  · have hnz : ((n : Int) == 0) = false := beq_eq_false_iff_ne.2 (by omega)
    have hnm : ((n : Int) == -1) = false := beq_eq_false_iff_ne.2 (by omega)
    have h1 := Int.emod_nonneg i (show (n : Int) ≠ 0 by omega)
    have h2 := Int.emod_lt_of_pos i (show (0 : Int) < (n : Int) by omega)
    have HW : Hid (wordF n z i = z (i % (n : Int)).toNat) := by unfold Hid wordF; rw [if_neg h0]
    obtain ⟨q, hq, hqn⟩ : ∃ q : Nat, i % (n : Int) = (q : Int) ∧ q < n := ⟨(i % (n : Int)).toNat, by omega, by omega⟩
    rw [show (i % (n : Int)).toNat = q by omega] at HW
    rcases h with ⟨_, _, _, h⟩ | ⟨b, off, c, e, hb, hz⟩
    · omega
    · cases e
      obtain ⟨x0, x1, x2⟩ := hz q hqn
      generalize z q = x at *
      have ki : (0 : Int) ≤ (q : Int) := by omega
      have kj : (q : Int) < (n : Int) := by omega
      clear hz h0 h1 h2
      go_enter Try.func85, Try.ntmps85
      go_wp2
      go_ret
      exact ⟨ret_int HW.out.symm, rfl⟩
end Go.Proofs.Ytagfcfojfjkmbaa
