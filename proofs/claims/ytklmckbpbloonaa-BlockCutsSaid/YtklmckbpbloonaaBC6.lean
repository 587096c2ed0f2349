/- Parts of the proof: Total. -/
import Derived.Test.YtklmckbpbloonaaBC5
namespace Go.Proofs.Ytklmckbpbloonaa

def lenSum (xss : List (List Int)) : Nat := (xss.map List.length).sum
def lenTo (xss : List (List Int)) (k : Nat) : Nat := lenSum (xss.take k)
theorem lenTo_all (xss : List (List Int)) : lenTo xss xss.length = lenSum xss := by unfold lenTo; rw [List.take_length]
theorem lenTo_zero (xss : List (List Int)) : lenTo xss 0 = 0 := rfl
theorem lenTo_succ {xss : List (List Int)} {k : Nat} {xs : List Int} (h : xss[k]? = some xs) : lenTo xss (k + 1) = lenTo xss k + xs.length := by
  unfold lenTo lenSum; rw [take_at h]; simp
theorem lenTo_le (xss : List (List Int)) (k : Nat) : lenTo xss k ≤ lenSum xss := by
  unfold lenTo lenSum
  have : ((xss.take k).map List.length).sum + ((xss.drop k).map List.length).sum = (xss.map List.length).sum := by
    rw [← List.sum_append, ← List.map_append, List.take_append_drop]
  omega
theorem lenSum_set : ∀ {xss : List (List Int)} {i : Nat} {x y : List Int}, xss[i]? = some x → lenSum (xss.set i y) + x.length = lenSum xss + y.length
  | [], i, x, y, h => by simp at h
  | z :: zs, 0, x, y, h => by simp at h; subst h; simp [lenSum]; omega
  | z :: zs, i + 1, x, y, h => by
    have := lenSum_set (xss := zs) (i := i) (x := x) (y := y) (by simpa using h)
    simp only [lenSum, List.set_cons_succ, List.map_cons, List.sum_cons] at this ⊢
    omega
theorem fill_sum {vs : List Int} {es : List Edg} (hs : vs.Pairwise (· < ·)) (hends : ∀ e ∈ es, e.2.1 ∈ vs ∧ e.2.2 ∈ vs) : ∀ k, k ≤ vs.length → lenSum (fillTo vs es k) = k
  | 0, _ => by simp [lenSum, fillTo, rootsTo]
  | k + 1, hk => by
    have h : vs[k]? = some vs[k] := List.getElem?_eq_getElem (by omega)
    obtain ⟨i, hi, _⟩ := root_at hs hends h
    have ih := fill_sum hs hends k (by omega)
    have h1 := lenSum_set (y := rowTo vs es k (lab es vs[k]) ++ [vs[k]]) (fillMid_at (es := es) hi)
    rw [← fillTo_succ hs h hi] at h1
    have h2 : lenSum (fillMid vs es k) = lenSum (fillTo vs es k) := by
      by_cases hr : lab es vs[k] = vs[k]
      · rw [fillMid_new hs h hr]; simp [lenSum]
      · rw [fillMid_old h hr]
    simp only [List.length_append, List.length_cons, List.length_nil] at h1
    omega
theorem parts_sum {vs : List Int} {es : List Edg} {n : Nat} (hn : vs.length = n) (hs : vs.Pairwise (· < ·)) (hends : ∀ e ∈ es, e.2.1 ∈ vs ∧ e.2.2 ∈ vs) : lenSum (partsTo vs es n) = n := by
  rw [← fillTo_all vs es hn]; exact fill_sum hs hends n (by omega)
/-- What is kept of some edges, behind k of them. -/
def keptTo (es : List Edg) (p : Edg → Bool) (k : Nat) : List Edg := (es.take k).filter p
def keptN (es : List Edg) (p : Edg → Bool) (k : Nat) : Nat := (keptTo es p k).length
theorem keptTo_succ {es : List Edg} {p : Edg → Bool} {k : Nat} {e : Edg} (h : es[k]? = some e) : keptTo es p (k + 1) = keptTo es p k ++ if p e then [e] else [] := by
  unfold keptTo; rw [take_at h, List.filter_append]
  congr 1
  cases hp : p e <;> simp [hp]
theorem keptN_succ {es : List Edg} {p : Edg → Bool} {k : Nat} {e : Edg} (h : es[k]? = some e) : keptN es p (k + 1) = keptN es p k + if p e then 1 else 0 := by
  unfold keptN; rw [keptTo_succ h]; cases hp : p e <;> simp
theorem keptN_le (es : List Edg) (p : Edg → Bool) (k : Nat) : keptN es p k ≤ k := by
  have h1 := List.length_filter_le p (es.take k)
  have h2 := List.length_take_le k es
  unfold keptN keptTo; omega
theorem keptTo_all (es : List Edg) (p : Edg → Bool) {n : Nat} (hn : es.length = n) : keptTo es p n = es.filter p := by subst hn; unfold keptTo; rw [List.take_length]
/-- What is kept next is the next of all that is kept. -/
theorem kept_at {es : List Edg} {p : Edg → Bool} {k : Nat} {e : Edg} (h : es[k]? = some e) (hp : p e = true) : (es.filter p)[keptN es p k]? = some e := by
  have h1 : es.filter p = keptTo es p (k + 1) ++ (es.drop (k + 1)).filter p := by
    unfold keptTo; rw [← List.filter_append, List.take_append_drop]
  rw [h1, keptTo_succ h, hp]
  unfold keptN
  simp
end Go.Proofs.Ytklmckbpbloonaa
