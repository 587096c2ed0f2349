/- Parts of the proof: UnP. -/
import Derived.Test.YtklmckbpbloonaaBC13
namespace Go.Proofs.Ytklmckbpbloonaa

theorem rise_pair {es : List Edg} (h : ∀ p q, p < q → q < es.length → K es p < K es q) : es.Pairwise fun a b => a.1 < b.1 := by
  rw [List.pairwise_iff_getElem]
  intro i j hi hj hij
  have := h i j hij hj
  rwa [K_at (List.getElem?_eq_getElem hi), K_at (List.getElem?_eq_getElem hj)] at this
theorem rise_unique {es es' : List Edg} (h : es.Pairwise fun a b => a.1 < b.1) (h' : es'.Pairwise fun a b => a.1 < b.1) (hp : es.Perm es') : es = es' :=
  List.Perm.eq_of_pairwise (le := fun a b => a.1 < b.1) (fun a b _ _ h1 h2 => by omega) h h' hp
end Go.Proofs.Ytklmckbpbloonaa
