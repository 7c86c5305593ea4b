/- Plain: with a further record; the smallest set is denied by some day. -/
import Derived.Test.YtagfcfojfjkmbaaN2
namespace Go.Proofs.Ytagfcfojfjkmbaa

/-- x is p with one more record. -/
def Pers.MoreOf (x p : Pers) : Prop := x.lo = p.lo ∧ x.hi = p.hi ∧ x.nr = p.nr ∧ x.R = p.R ∧ x.nc = p.nc + 1 ∧ ∀ j, j < p.nc → x.C j = p.C j
theorem MoreOf.okB {x p : Pers} (h : x.MoreOf p) {j : Nat} (hj : j < p.nc) (b : Int) : x.okB j b = p.okB j b := by
  obtain ⟨_, _, _, h4, _, h6⟩ := h
  unfold Pers.okB Pers.rl
  rw [h4, h6 j hj]
theorem more_born {x p : Pers} (h : x.MoreOf p) (hp : p.fault = 0) (hx : x.fault = 0) : insB x.born p.born = true := by
  obtain ⟨b1, b2⟩ := born_has hp
  obtain ⟨c1, c2⟩ := born_has hx
  refine insB_of c1 b1 fun n hn => ?_
  obtain ⟨h1, h2, h3⟩ := (c2 n).1 hn
  refine (b2 n).2 ⟨by rw [← h.1]; exact h1, by rw [← h.2.1]; exact h2, fun j hj => ?_⟩
  rw [← MoreOf.okB h hj]
  exact h3 j (by have := h.2.2.2.2.1; omega)
theorem more_none {x p : Pers} (h : x.MoreOf p) (hp : p.fault = 0) (hx : x.fault = 0) (hn : p.born = []) : x.born = [] := by
  have := more_born h hp hx
  rw [hn] at this
  cases hb : x.born with
  | nil => rfl
  | cons a l => rw [hb] at this; simp [insB] at this

theorem more_leave {x p : Pers} (h : x.MoreOf p) (hp : p.fault = 0) (hx : x.fault = 0) : p.leave.length ≤ x.leave.length ∧ x.leave.length ≤ p.leave.length + 1 := by
  obtain ⟨ks, e, ha, ho, hm⟩ := leave_min hp
  obtain ⟨kx, ex, hax, hox, hmx⟩ := leave_min hx
  have hnc := h.2.2.2.2.1
  rw [e, ex, castL_length, castL_length]
  constructor
  · have h1 : Asc p.nc 0 (kx.filter fun k => decide (k < p.nc)) := by
      rw [asc_iff] at hax ⊢
      exact ⟨hax.1.filter _, fun k hk => ⟨Nat.zero_le _, by simpa using (List.mem_filter.1 hk).2⟩⟩
    have h2 : p.okOut (castL (kx.filter fun k => decide (k < p.nc))) = true := by
      rw [okOut_iff hp]
      obtain ⟨b, b1, b2, b3⟩ := (okOut_iff hx _).1 hox
      refine ⟨b, by rw [← h.1]; exact b1, by rw [← h.2.1]; exact b2, fun j hj => ?_⟩
      rcases b3 j (by omega) with h3 | h3
      · left
        rw [castL_mem] at h3 ⊢
        exact List.mem_filter.2 ⟨h3, by simpa using hj⟩
      · right
        rw [← MoreOf.okB h hj]; exact h3
    have h3 := hm _ h1 h2
    have h4 : (kx.filter fun k => decide (k < p.nc)).length ≤ kx.length := List.length_filter_le _ _
    apply Nat.le_of_not_lt
    intro hlt
    exact h3 (.inl (by omega))
  · have h1 : Asc x.nc 0 (ks ++ [p.nc]) := by
      rw [asc_iff] at ha ⊢
      refine ⟨List.pairwise_append.2 ⟨ha.1, List.pairwise_singleton _ _, fun a ha' b hb => ?_⟩, fun k hk => ⟨Nat.zero_le _, ?_⟩⟩
      · rw [List.mem_singleton] at hb; subst hb
        exact (ha.2 a ha').2
      · rcases List.mem_append.1 hk with hk | hk
        · have := (ha.2 k hk).2; omega
        · rw [List.mem_singleton] at hk; omega
    have h2 : x.okOut (castL (ks ++ [p.nc])) = true := by
      rw [okOut_iff hx]
      obtain ⟨b, b1, b2, b3⟩ := (okOut_iff hp _).1 ho
      refine ⟨b, by rw [h.1]; exact b1, by rw [h.2.1]; exact b2, fun j hj => ?_⟩
      rw [castL_mem]
      rcases Nat.lt_or_ge j p.nc with hlt | hge
      · rcases b3 j hlt with h3 | h3
        · rw [castL_mem] at h3
          exact .inl (List.mem_append_left _ h3)
        · right; rw [MoreOf.okB h hlt]; exact h3
      · exact .inl (List.mem_append_right _ (by rw [List.mem_singleton]; omega))
    have h3 := hmx _ h1 h2
    apply Nat.le_of_not_lt
    intro hlt
    exact h3 (.inl (by rw [List.length_append, List.length_singleton]; omega))

/-- The smallest set is that of the records that some day denies, and none of these is smaller. -/
theorem asc_sub {nc : Nat} {a b : List Nat} (ha : Asc nc 0 a) (hb : Asc nc 0 b) (hs : ∀ k ∈ a, k ∈ b) (hl : b.length ≤ a.length) : a = b := by
  rw [asc_iff] at ha hb
  have hna : a.Nodup := ha.1.imp (fun h => Nat.ne_of_lt h)
  have hnb : b.Nodup := hb.1.imp (fun h => Nat.ne_of_lt h)
  have hfil : b.filter (fun k => decide (k ∈ a)) = a := by
    have hp1 : (b.filter (fun k => decide (k ∈ a))).Perm a := by
      rw [List.perm_ext_iff_of_nodup (hnb.filter _) hna]
      intro k
      rw [List.mem_filter]
      constructor
      · rintro ⟨_, h⟩; simpa using h
      · intro h; exact ⟨hs k h, by simpa using h⟩
    exact List.Perm.eq_of_pairwise (fun x y _ _ h1 h2 => by omega) (hb.1.filter _) ha.1 hp1
  have hlen : b.length ≤ (b.filter (fun k => decide (k ∈ a))).length := by rw [hfil]; exact hl
  have : b.filter (fun k => decide (k ∈ a)) = b := List.Sublist.eq_of_length_le List.filter_sublist hlen
  rw [← hfil, this]
theorem leave_denies {p : Pers} (h : p.fault = 0) : ∃ b, p.lo ≤ b ∧ b ≤ p.hi ∧ p.leave = castL (p.denies b) ∧ ∀ b', p.lo ≤ b' → b' ≤ p.hi → ¬ lessN (p.denies b') (p.denies b) := by
  obtain ⟨ks, e, ha, ho, hm⟩ := leave_min h
  obtain ⟨b, b1, b2, b3⟩ := (okOut_iff h _).1 ho
  have hsub : ∀ k ∈ p.denies b, k ∈ ks := fun k hk => by
    obtain ⟨h1, h2⟩ := List.mem_filter.1 hk
    rcases b3 k (by simpa using h1) with h3 | h3
    · exact (castL_mem _ _).1 h3
    · rw [h3] at h2; cases h2
  have hl : ks.length ≤ (p.denies b).length := by
    apply Nat.le_of_not_lt
    intro hlt
    exact hm _ (asc_filter _ _) (okOut_denies h b1 b2) (.inl hlt)
  have he : p.denies b = ks := asc_sub (asc_filter _ _) ha hsub hl
  refine ⟨b, b1, b2, by rw [e, he], fun b' h1 h2 => ?_⟩
  rw [he]
  exact hm _ (asc_filter _ _) (okOut_denies h h1 h2)
end Go.Proofs.Ytagfcfojfjkmbaa
