/- Parts of the proof: Legal. -/
import Derived.Test.YtklmckbpbloonaaBC1
namespace Go.Proofs.Ytklmckbpbloonaa

theorem chkN_zero {last n : Int} (h : chkN last n = 0) : 1 ≤ n ∧ n ≤ 1048576 ∧ last < n := by
  unfold chkN at h
  split at h
  · omega
  · split at h <;> omega
theorem chkVs_zero : ∀ {vs : List Int} {last : Int}, chkVs last vs = 0 → (∀ v ∈ vs, last < v ∧ 1 ≤ v ∧ v ≤ 1048576) ∧ vs.Pairwise (· < ·)
  | [], _, _ => ⟨(fun v hv => by cases hv), List.Pairwise.nil⟩
  | v :: vs, last, h => by
    unfold chkVs at h
    split at h
    · rename_i h0; exact absurd h h0
    · rename_i h0
      obtain ⟨h1, h2, h3⟩ := chkN_zero (Classical.byContradiction h0)
      obtain ⟨k1, k2⟩ := chkVs_zero h
      refine ⟨fun x hx => ?_, List.pairwise_cons.2 ⟨fun x hx => (k1 x hx).1, k2⟩⟩
      rcases List.mem_cons.1 hx with rfl | hx
      · exact ⟨h3, h1, h2⟩
      · have := k1 x hx; omega
theorem chkE_zero {all : List Int} {last : Int} {e : Edg} (h : chkE all last e = 0) : (1 ≤ e.1 ∧ e.1 ≤ 1048576 ∧ last < e.1) ∧ e.2.1 ≠ e.2.2 ∧ e.2.1 ∈ all ∧ e.2.2 ∈ all := by
  unfold chkE at h
  split at h
  · rename_i h0; exact absurd h h0
  · rename_i h0
    split at h
    · omega
    · rename_i h1
      split at h
      · omega
      · rename_i h2
        refine ⟨chkN_zero (Classical.byContradiction h0), h1, ?_, ?_⟩
        · exact Classical.byContradiction fun hh => h2 (.inl hh)
        · exact Classical.byContradiction fun hh => h2 (.inr hh)
theorem chkEs_zero : ∀ {es : List Edg} {all : List Int} {last : Int}, chkEs all last es = 0 → (∀ e ∈ es, last < e.1 ∧ (1 ≤ e.1 ∧ e.1 ≤ 1048576) ∧ e.2.1 ≠ e.2.2 ∧ e.2.1 ∈ all ∧ e.2.2 ∈ all) ∧ (es.map (·.1)).Pairwise (· < ·)
  | [], _, _, _ => ⟨(fun v hv => by cases hv), List.Pairwise.nil⟩
  | e :: es, all, last, h => by
    unfold chkEs at h
    split at h
    · rename_i h0; exact absurd h h0
    · rename_i h0
      obtain ⟨h1, h2, h3, h4⟩ := chkE_zero (Classical.byContradiction h0)
      obtain ⟨k1, k2⟩ := chkEs_zero h
      refine ⟨fun x hx => ?_, ?_⟩
      · rcases List.mem_cons.1 hx with rfl | hx
        · exact ⟨h1.2.2, ⟨h1.1, h1.2.1⟩, h2, h3, h4⟩
        · have := k1 x hx
          exact ⟨by omega, this.2⟩
      · rw [List.map_cons, List.pairwise_cons]
        refine ⟨fun x hx => ?_, k2⟩
        obtain ⟨y, hy, rfl⟩ := List.mem_map.1 hx
        exact (k1 y hy).1
/-- A graph that may be. -/
structure Fit (vs : List Int) (es : List Edg) : Prop where
  nv : vs.length ≤ 64
  ne : es.length ≤ 160
  up : vs.Pairwise (· < ·)
  big : ∀ v ∈ vs, 1 ≤ v ∧ v ≤ 1048576
  ends : ∀ e ∈ es, e.2.1 ∈ vs ∧ e.2.2 ∈ vs
  loop : ∀ e ∈ es, e.2.1 ≠ e.2.2
  ids : ∀ e ∈ es, 1 ≤ e.1 ∧ e.1 ≤ 1048576
  eup : (es.map (·.1)).Pairwise (· < ·)
theorem gcheck_zero {vs : List Int} {es : List Edg} (h : gcheck vs es = 0) : Fit vs es := by
  unfold gcheck at h
  split at h
  · omega
  · rename_i h0
    split at h
    · rename_i h1; exact absurd h h1
    · rename_i h1
      obtain ⟨a1, a2⟩ := chkVs_zero (Classical.byContradiction h1)
      obtain ⟨b1, b2⟩ := chkEs_zero h
      exact ⟨by omega, by omega, a2, fun v hv => (a1 v hv).2, fun e he => (b1 e he).2.2.2, fun e he => (b1 e he).2.2.1, fun e he => (b1 e he).2.1, b2⟩
/-- The last place of v among the first k. -/
def placeTo (vs : List Int) (v : Int) (k : Nat) : Int := if v ∈ vs.take k then idx vs v else -1
theorem placeTo_all {vs : List Int} {v : Int} {n : Nat} (hn : vs.length = n) : placeTo vs v n = idx vs v := by
  subst hn
  unfold placeTo
  rw [List.take_length]
  split
  · rfl
  · rename_i h; unfold idx; rw [if_neg h]
theorem placeTo_hit {vs : List Int} {v : Int} {k : Nat} (hs : vs.Pairwise (· < ·)) (h : vs[k]? = some v) : placeTo vs v (k + 1) = k := by
  unfold placeTo
  rw [if_pos (by rw [take_at h]; simp)]
  refine idx_hit (fun j hj e => ?_) h
  obtain ⟨a, e1⟩ := List.getElem?_eq_some_iff.1 e
  obtain ⟨b, e2⟩ := List.getElem?_eq_some_iff.1 h
  have := List.pairwise_iff_getElem.1 hs j k a b hj
  omega
theorem placeTo_miss {vs : List Int} {v x : Int} {k : Nat} (h : vs[k]? = some x) (hne : x ≠ v) : placeTo vs v (k + 1) = placeTo vs v k := by
  unfold placeTo
  rw [take_at h]
  have : (v ∈ vs.take k ++ [x]) ↔ v ∈ vs.take k := by simp [Ne.symm hne]
  simp only [this]
end Go.Proofs.Ytklmckbpbloonaa
