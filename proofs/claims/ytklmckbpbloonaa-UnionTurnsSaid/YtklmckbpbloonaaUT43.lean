/- Parts of the proof: OpensB. -/
import Derived.Test.YtklmckbpbloonaaUT42
namespace Go.Proofs.Ytklmckbpbloonaa
open Go.ChangeShapes Go.WideShapes Go.ChangeAt Go.RowKit Go.Joins Go.Deep

section
variable {H : Type} {enc : TypeId × Value → H} {W : World}
set_option maxRecDepth 100000 in
/-- A []uint32 that is an argument. -/
theorem open_us_arg {b0 : Nat} {v : Value} {d : DataW H} {p : List MemPlace} (hv : Value.okWide Try.prog W .any b0 22 v) (h : DataW.Trod enc Try.prog W 0 (fun _ => true) true 22 v d p) (hlt : ∀ x ∈ p, x.block < W.heap.size) :
    ∃ A n c xs, v = .slice A n c ∧ RdU W W.heap.size A n c xs := by
  obtain ⟨a0, n, c, rfl⟩ := okWide_slice Try.underlying22 hv
  obtain ⟨fuel, hf⟩ := h
  obtain ⟨A, n', c', xs, e, k⟩ := open_us (y := (d, p)) (v := .slice a0 n c) (by simpa [Value.cells] using hf) hlt
  exact ⟨A, n', c', xs, e, k⟩
set_option maxRecDepth 100000 in
/-- A number of 32 bits, a bool. -/
theorem open_u_arg {v : Value} {d : DataW H} {p : List MemPlace} {b0 : Nat} (hv : Value.okWide Try.prog W .any b0 31 v) (h : DataW.Trod enc Try.prog W 0 (fun _ => true) true 31 v d p) :
    ∃ x : Int, v = .int .u32 x ∧ 0 ≤ x ∧ x < 4294967296 := by
  obtain ⟨x, rfl⟩ := okWide_int Try.underlying31 hv
  obtain ⟨fuel, hf⟩ := h
  obtain ⟨z, e, _, hw⟩ := DataW.trod_int Try.underlying31 hf
  simp [Value.cells] at e
  subst e
  exact ⟨x, rfl, u32_wf hw⟩
set_option maxRecDepth 100000 in
theorem open_b_arg {v : Value} {b0 : Nat} (hv : Value.okWide Try.prog W .any b0 4 v) : ∃ x : Bool, v = .bool x := okWide_bool Try.underlying4 hv
end
end Go.Proofs.Ytklmckbpbloonaa
