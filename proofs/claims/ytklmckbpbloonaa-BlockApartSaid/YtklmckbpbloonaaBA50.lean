/- BlockApart returns true, whatever graph it is given, and the graph reads behind the call as it read before. No condition. -/
import Derived.Test.YtklmckbpbloonaaRows
import Derived.Test.YtklmckbpbloonaaBA48
import Derived.Test.YtklmckbpbloonaaBA49
namespace Go.Proofs.Ytklmckbpbloonaa
open Go.ChangeShapes Go.WideShapes Go.ChangeAt Go.RowKit

theorem ownPBA : ownKnob Try.prog.godebug = none := by kernel_rfl
set_option maxRecDepth 100000 in
theorem blockApart_lifted (os : Os) (started : os.Started) (H : Type) (enc : TypeId × Value → H) :
    ReturnsInHanded {} Try.checked os 8 .any (Rows.blockApartSpec.pre6 enc Try.prog Try.f8 Rows.blockApartRow.domain false) (Rows.blockApartSpec.post enc Try.prog Try.f8 false true false false) := by
  refine returnsInHanded_of_change (C := Try.checked) ownPBA started (by kernel_rfl) Try.func8
    (ChangeSpec.witness6 (enc := enc) (C := Try.checked) false ⟨#[], #[.agg #[.slice none 0 0, .slice none 0 0]], []⟩ 8 (by kernel_rfl) (by kernel_rfl) (by kernel_rfl) (by kernel_rfl)) ?_
  intro W base args ds gs before hval0 hW hcnd _
  have hval : ∀ (j : Nat) t v, Try.f8.params[j]? = some t → args[j]? = some v → Value.okWide Try.prog W .any base t v := hval0
  have hW' := hW
  obtain ⟨p, q, hA0, hV, rfl, hfz, hnd⟩ := hW
  have hA : DataW.TrodAll enc Try.prog W 0 (fun _ => true) true Try.f8.params.toList args.toList ds p := hA0
  rw [Try.params8] at hA hval
  obtain ⟨v0, d0, rfl, rfl, h0⟩ := trodAll_one hA
  obtain ⟨rfl, rfl⟩ := trodVars_none hV
  have hlt : ∀ x ∈ p, x.block < W.heap.size := fun x hx => hW'.lt x (List.mem_append_left _ hx)
  obtain ⟨A, n, c, A', n', c', vs, es, rfl, k, k'⟩ := open_graph (hval 0 25 v0 rfl rfl) h0 hlt
  clear hA0 hval0
  refine (blockApart_any _ (vs, es) W ⟨A, n, c, A', n', c', rfl, k, k'⟩).mono fun e W' ⟨he, hb⟩ => ?_
  subst he
  exact ⟨_, rfl, post_true (by kernel_rfl) rfl (by kernel_rfl) hW' rfl rfl rfl hb⟩

set_option maxRecDepth 100000 in
theorem blockApart_holds : Rows.BlockApartSaid :=
  OpenClaim.holds_of_wide 8 Try.f8 rfl rfl rfl rfl rfl rfl rfl ⟨rfl, rfl, rfl, rfl, rfl⟩ rfl rfl rfl rfl rfl (by kernel_rfl) Try.func8 (by kernel_rfl)
    (of_decide_eq_true (by kernel_rfl)) (by unfold Func.isWrapper; first | (rw [if_pos (by decide +kernel)]; kernel_rfl) | (rw [if_neg (by decide +kernel)]; exact ⟨rfl, rfl⟩))
    (fun os started H enc _ => blockApart_lifted os started H enc)
end Go.Proofs.Ytklmckbpbloonaa
