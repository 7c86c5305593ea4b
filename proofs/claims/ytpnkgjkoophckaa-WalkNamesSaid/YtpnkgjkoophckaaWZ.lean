/- Walk: lists of sets that are held; Clone. -/
import Derived.Test.YtpnkgjkoophckaaWY
namespace Go.Proofs.Ytpnkgjkoophckaa
open Go.RowKit Go.Shelf Go.Maps

/-- A list of sets that is held; none: nil. -/
def Hold (X : World) (v : Value) (l : List Nat) : Prop := (l = [] ∧ v = .slice none 0 0) ∨ (l ≠ [] ∧ X.ownsRow 0 124 1 v l.length (nL l))
theorem Hold.fr {X Y : World} {v : Value} {l : List Nat} {ex : Nat → Prop} (h : Hold X v l) (hf : Fr ex X Y) (hx : ∀ b cs, X.heap[b]? = some (.cells cs 124 (0, 0)) → ¬ ex b) : Hold Y v l := by
  rcases h with h | ⟨h1, h2⟩
  · exact .inl h
  · exact .inr ⟨h1, own_fr h2 hf (fun g cur _ _ hc => hx g cur hc)⟩
theorem Hold.slice {X : World} {v : Value} {l : List Nat} (h : Hold X v l) : ∃ a c, v = .slice a l.length c ∧ (a = none ↔ l = []) := by
  rcases h with ⟨rfl, rfl⟩ | ⟨h1, h2⟩
  · exact ⟨none, 0, rfl, by simp⟩
  · obtain ⟨a, c, rfl⟩ := own_slice' h2
    obtain ⟨g, rfl⟩ := own_somep h2 (List.length_pos_iff.2 h1)
    exact ⟨_, _, rfl, by simp [h1]⟩
theorem Try.infoSet : (Try.prog.info? 124).map (fun i => (i.zero, i.size, i.bytes)) = some (some (.int .i64 0), 1, 8) := by kernel_rfl
set_option maxRecDepth 100000 in
set_option maxHeartbeats 4000000 in
theorem clone_any (v : Value) (l : List Nat) (hl : l.length ≤ 1000) (w : World) (h : Hold w v l) :
    Calls Try.prog 103 #[v] w fun e w' => ∃ v', e = .returned v' ∧ w'.ownsRow w.heap.size 124 1 v' l.length (nL l) ∧ Below w.heap.size w w' := by
  obtain ⟨i0, hi0, hz0, hz1, hz2⟩ := info_parts Try.infoSet
  rcases h with ⟨rfl, rfl⟩ | ⟨h1, h2⟩
  · have hnil : ∀ W : World, (binOp .eql 136 (.slice none 0 0) (.slice none 0 0)).run Try.prog W = .ok (.bool true) W := fun W => Lib.run_eql_slice_nil W 136 124 none 0 0 0 0 Try.underlying136
    go_enter Try.func103, Try.ntmps103
    go_wp2
    go_ret
    exact ⟨_, rfl, World.ownsRow_nil _ _ _ _, Below.refl _ _⟩
  · obtain ⟨a, c, rfl⟩ := own_slice' h2
    obtain ⟨g, rfl⟩ := own_somep h2 (List.length_pos_iff.2 h1)
    have HS := Lib.hid (own_src (own_below h2 (below_alloc w (.cells #[] 124))))
    have HO : Hid ((w.alloc (.cells #[] 124)).ownsRow w.heap.size 124 1 (.slice (some ⟨w.heap.size, 0, none⟩) 0 0) 0 []) := own_empty w _ _ _ (Nat.le_refl _)
    have HN := Lib.hid (nL_one l)
    clear h1 h2
    have hnil : ∀ W : World, (binOp .eql 136 (.slice (some ⟨g, 0, none⟩) l.length c) (.slice none 0 0)).run Try.prog W = .ok (.bool false) W := fun W => Lib.run_eql_slice_nil W 136 124 (some ⟨g, 0, none⟩) l.length c 0 0 Try.underlying136
    go_enter Try.func103, Try.ntmps103
    go_wp2_with (at_builtin; refine wpList_append_src _ rfl (.tmp 5) (.tmp 6) 136 rfl w.heap.size 124 i0 (.int .i64 0) 1 8 Try.underlying136 hi0 hz0 hz1 hz2 rfl (by decide) (.slice (some ⟨w.heap.size, 0, none⟩) 0 0) 0 [] rfl HO.out (some ⟨g, 0, none⟩) l.length c (nL l) rfl HS.out HN.out ?a1 ?a2 ?a3 ?_)
    case a1 => unfold maxLen; omega
    case a2 => omega
    case a3 => simp
    intro v2 w3 hown hgr hlt1
    have hown : w3.ownsRow w.heap.size 124 1 v2 l.length (nL l) := by simpa only [Nat.zero_add, List.nil_append] using hown
    have HB : Hid (Below w.heap.size w w3) := (below_alloc w (.cells #[] 124)).trans ((Fr.grown hgr).low (by simp) (fun q hq e => by have := own_low HO.out e; omega))
    have HO3 := Lib.hid hown
    clear hown hgr hlt1
    go_wp2
    go_ret
    exact ⟨_, rfl, HO3.out, HB.out⟩
end Go.Proofs.Ytpnkgjkoophckaa
