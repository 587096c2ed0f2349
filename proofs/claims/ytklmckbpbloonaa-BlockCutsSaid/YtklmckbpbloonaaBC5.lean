/- Parts of the proof: Fill. -/
import Derived.Test.YtklmckbpbloonaaBC4
namespace Go.Proofs.Ytklmckbpbloonaa

def rootsTo (vs : List Int) (es : List Edg) (k : Nat) : List Int := (vs.take k).filter fun v => lab es v == v
def rowTo (vs : List Int) (es : List Edg) (k : Nat) (r : Int) : List Int := (vs.take k).filter fun x => lab es x == r
/-- Behind k vertices. -/
def fillTo (vs : List Int) (es : List Edg) (k : Nat) : List (List Int) := (rootsTo vs es k).map (rowTo vs es k)
/-- Behind k vertices, with the next one's part begun. -/
def fillMid (vs : List Int) (es : List Edg) (k : Nat) : List (List Int) := (rootsTo vs es (k + 1)).map (rowTo vs es k)
def rootsLen (vs : List Int) (es : List Edg) (k : Nat) : Nat := (rootsTo vs es k).length
section
variable {vs : List Int} {es : List Edg} {k : Nat} {v : Int}
theorem rootsLen_le (vs : List Int) (es : List Edg) (k : Nat) : rootsLen vs es k ≤ k := by
  have h1 := List.length_filter_le (fun v => lab es v == v) (vs.take k)
  have h2 := List.length_take_le k vs
  unfold rootsLen rootsTo; omega
theorem fillTo_len (vs : List Int) (es : List Edg) (k : Nat) : (fillTo vs es k).length = rootsLen vs es k := by simp [fillTo, rootsLen]
theorem fillMid_len (vs : List Int) (es : List Edg) (k : Nat) : (fillMid vs es k).length = rootsLen vs es (k + 1) := by simp [fillMid, rootsLen]
theorem rootsTo_succ (h : vs[k]? = some v) : rootsTo vs es (k + 1) = rootsTo vs es k ++ if lab es v = v then [v] else [] := by
  unfold rootsTo; rw [take_at h, List.filter_append]
  congr 1
  by_cases e : lab es v = v
  · rw [if_pos e]; simp [e]
  · rw [if_neg e]; simp [e]
theorem rowTo_succ (h : vs[k]? = some v) (r : Int) : rowTo vs es (k + 1) r = rowTo vs es k r ++ if lab es v = r then [v] else [] := by
  unfold rowTo; rw [take_at h, List.filter_append]
  congr 1
  by_cases e : lab es v = r
  · rw [if_pos e]; simp [e]
  · rw [if_neg e]; simp [e]
theorem lt_of_take (hs : vs.Pairwise (· < ·)) (h : vs[k]? = some v) {x : Int} (hx : x ∈ vs.take k) : x < v := by
  obtain ⟨i, hi, e⟩ := List.mem_iff_getElem.1 hx
  have hik : i < k := by rw [List.length_take] at hi; omega
  rw [List.getElem_take] at e
  obtain ⟨hkl, e2⟩ := List.getElem?_eq_some_iff.1 h
  have := List.pairwise_iff_getElem.1 hs i k (by omega) hkl hik
  omega
theorem rowTo_new (hs : vs.Pairwise (· < ·)) (h : vs[k]? = some v) : rowTo vs es k v = [] := by
  unfold rowTo
  rw [List.filter_eq_nil_iff]
  intro x hx
  have h1 := lt_of_take hs h hx
  have h2 := lab_le es x
  simp only [beq_iff_eq]; omega
theorem fillMid_new (hs : vs.Pairwise (· < ·)) (h : vs[k]? = some v) (hr : lab es v = v) : fillMid vs es k = fillTo vs es k ++ [[]] := by
  unfold fillMid fillTo
  rw [rootsTo_succ h, if_pos hr, List.map_append, List.map_singleton, rowTo_new hs h]
theorem fillMid_old (h : vs[k]? = some v) (hr : ¬ lab es v = v) : fillMid vs es k = fillTo vs es k := by
  unfold fillMid fillTo
  rw [rootsTo_succ h, if_neg hr, List.append_nil]
theorem rootsTo_nodup (hs : vs.Pairwise (· < ·)) (k : Nat) : (rootsTo vs es k).Nodup := by
  have h1 : (rootsTo vs es k).Pairwise (· < ·) := hs.sublist (List.filter_sublist.trans (List.take_sublist k vs))
  exact h1.imp fun h => by omega
theorem root_at (hs : vs.Pairwise (· < ·)) (hends : ∀ e ∈ es, e.2.1 ∈ vs ∧ e.2.2 ∈ vs) (h : vs[k]? = some v) : ∃ i : Nat, (rootsTo vs es (k + 1))[i]? = some (lab es v) ∧ i < rootsLen vs es (k + 1) := by
  have hm : lab es v ∈ rootsTo vs es (k + 1) := by
    unfold rootsTo
    rw [List.mem_filter, lab_lab]
    refine ⟨?_, by simp⟩
    rw [take_at h]
    have hv : v ∈ vs := List.mem_of_getElem? h
    have h1 := lab_mem hends hv
    have h2 := lab_le es v
    obtain ⟨i, hi, e⟩ := List.mem_iff_getElem.1 h1
    obtain ⟨hkl, e2⟩ := List.getElem?_eq_some_iff.1 h
    rcases Nat.lt_trichotomy i k with hik | hik | hik
    · exact List.mem_append_left _ (List.mem_iff_getElem.2 ⟨i, by rw [List.length_take]; omega, by rw [List.getElem_take]; exact e⟩)
    · subst hik; rw [← e, e2]; simp
    · have := List.pairwise_iff_getElem.1 hs k i hkl hi hik
      omega
  obtain ⟨i, hi, e⟩ := List.mem_iff_getElem.1 hm
  exact ⟨i, by rw [List.getElem?_eq_getElem hi, e], hi⟩
theorem fillTo_succ (hs : vs.Pairwise (· < ·)) (h : vs[k]? = some v) {i : Nat} (hi : (rootsTo vs es (k + 1))[i]? = some (lab es v)) : fillTo vs es (k + 1) = (fillMid vs es k).set i (rowTo vs es k (lab es v) ++ [v]) := by
  unfold fillTo fillMid
  apply List.ext_getElem?
  intro j
  rw [List.getElem?_set, List.getElem?_map, List.getElem?_map]
  have hil : i < (rootsTo vs es (k + 1)).length := (List.getElem?_eq_some_iff.1 hi).1
  by_cases hij : i = j
  · subst hij
    rw [if_pos rfl, if_pos (by simpa using hil), hi]
    simp [rowTo_succ h]
  · rw [if_neg hij]
    cases hj : (rootsTo vs es (k + 1))[j]? with
    | none => rfl
    | some r =>
      simp only [Option.map_some]
      rw [rowTo_succ h, if_neg, List.append_nil]
      rintro rfl
      obtain ⟨hjl, e1⟩ := List.getElem?_eq_some_iff.1 hj
      obtain ⟨_, e2⟩ := List.getElem?_eq_some_iff.1 hi
      exact hij ((List.getElem_inj (rootsTo_nodup hs _)).1 (e2.trans e1.symm))
theorem fillMid_at {i : Nat} (hi : (rootsTo vs es (k + 1))[i]? = some v) : (fillMid vs es k)[i]? = some (rowTo vs es k v) := by
  unfold fillMid; rw [List.getElem?_map, hi]; rfl
theorem fillTo_all (vs : List Int) (es : List Edg) {n : Nat} (hn : vs.length = n) : fillTo vs es n = partsTo vs es n := by
  subst hn
  unfold fillTo partsTo rootsTo rowTo
  rw [List.take_length]
theorem rowTo_len (vs : List Int) (es : List Edg) (k : Nat) (r : Int) : (rowTo vs es k r).length ≤ k := by
  have h1 := List.length_filter_le (fun x => lab es x == r) (vs.take k)
  have h2 := List.length_take_le k vs
  unfold rowTo; omega
end
end Go.Proofs.Ytklmckbpbloonaa
