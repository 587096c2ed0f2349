/- GraphLooks returns true, whatever graph, vertex, number and bool it is given, and the graph reads behind the call as it read before. No condition. -/
import Derived.Test.YtklmckbpbloonaaRows
import Derived.Test.YtklmckbpbloonaaLawGL
import Derived.Test.YtklmckbpbloonaaOpensB
import Derived.Carry
namespace Go.Proofs.Ytklmckbpbloonaa
open Go.ChangeShapes Go.WideShapes Go.ChangeAt Go.RowKit

theorem ownPGL : ownKnob Try.prog.godebug = none := by kernel_rfl
set_option maxRecDepth 100000 in
theorem graphLooks_lifted (os : Os) (started : os.Started) (H : Type) (enc : TypeId × Value → H) :
    ReturnsInHanded {} Try.checked os 4 .any (Rows.graphLooksSpec.pre6 enc Try.prog Try.f4 Rows.graphLooksRow.domain false) (Rows.graphLooksSpec.post enc Try.prog Try.f4 false true false false) := by
  refine returnsInHanded_of_change (C := Try.checked) ownPGL started (by kernel_rfl) Try.func4
    (ChangeSpec.witness6 (enc := enc) (C := Try.checked) false ⟨#[], #[.agg #[.slice none 0 0, .slice none 0 0], .int .u32 0, .int .u32 0, .bool false], []⟩ 8 (by kernel_rfl) (by kernel_rfl) (by kernel_rfl) (by kernel_rfl)) ?_
  intro W base args ds gs before hval0 hW hcnd _
  have hval : ∀ (j : Nat) t v, Try.f4.params[j]? = some t → args[j]? = some v → Value.okWide Try.prog W .any base t v := hval0
  have hW' := hW
  obtain ⟨p, q, hA0, hV, rfl, hfz, hnd⟩ := hW
  have hA : DataW.TrodAll enc Try.prog W 0 (fun _ => true) true Try.f4.params.toList args.toList ds p := hA0
  rw [Try.params4] at hA hval
  obtain ⟨v0, v1, v2, v3, d0, d1, d2, d3, p0, p1, p2, p3, rfl, rfl, rfl, h0, h1, h2, h3⟩ := trodAll_four hA
  obtain ⟨rfl, rfl⟩ := trodVars_none hV
  have hlt : ∀ x ∈ p0, x.block < W.heap.size := fun x hx => hW'.lt x (List.mem_append_left _ (by simp [hx]))
  obtain ⟨A, n, c, A', n', c', vs, es, rfl, k, k'⟩ := open_graph (hval 0 25 v0 rfl rfl) h0 hlt
  obtain ⟨x1, rfl, b1⟩ := open_u_arg (hval 1 31 v1 rfl rfl) h1
  obtain ⟨x2, rfl, b2⟩ := open_u_arg (hval 2 31 v2 rfl rfl) h2
  obtain ⟨x3, rfl⟩ := open_b_arg (hval 3 4 v3 rfl rfl)
  clear hA0 hval0
  refine (graphLooks_any A A' n c n' c' vs es x1 x2 x3 W k k').mono fun e W' ⟨he, hb⟩ => ?_
  subst he
  exact ⟨_, rfl, post_true (by kernel_rfl) rfl (by kernel_rfl) hW' rfl rfl rfl hb⟩

set_option maxRecDepth 100000 in
theorem graphLooks_holds : Rows.GraphLooksSaid :=
  OpenClaim.holds_of_wide 4 Try.f4 rfl rfl rfl rfl rfl rfl rfl ⟨rfl, rfl, rfl, rfl, rfl⟩ rfl rfl rfl rfl rfl (by kernel_rfl) Try.func4 (by kernel_rfl)
    (of_decide_eq_true (by kernel_rfl)) (by unfold Func.isWrapper; first | (rw [if_pos (by decide +kernel)]; kernel_rfl) | (rw [if_neg (by decide +kernel)]; exact ⟨rfl, rfl⟩))
    (fun os started H enc _ => graphLooks_lifted os started H enc)
end Go.Proofs.Ytklmckbpbloonaa
