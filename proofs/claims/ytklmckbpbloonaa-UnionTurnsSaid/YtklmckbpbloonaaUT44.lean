/- UnionTurns returns true, whatever three graphs it is given, and the graphs read behind the call as they read before. No condition. -/
import Derived.Test.YtklmckbpbloonaaRows
import Derived.Test.YtklmckbpbloonaaUT41
import Derived.Test.YtklmckbpbloonaaUT43
namespace Go.Proofs.Ytklmckbpbloonaa
open Go.ChangeShapes Go.WideShapes Go.ChangeAt Go.RowKit

theorem ownPUT : ownKnob Try.prog.godebug = none := by kernel_rfl
set_option maxRecDepth 100000 in
theorem unionTurns_lifted (os : Os) (started : os.Started) (H : Type) (enc : TypeId × Value → H) :
    ReturnsInHanded {} Try.checked os 7 .any (Rows.unionTurnsSpec.pre6 enc Try.prog Try.f7 Rows.unionTurnsRow.domain false) (Rows.unionTurnsSpec.post enc Try.prog Try.f7 false true false false) := by
  refine returnsInHanded_of_change (C := Try.checked) ownPUT started (by kernel_rfl) Try.func7
    (ChangeSpec.witness6 (enc := enc) (C := Try.checked) false ⟨#[], #[.agg #[.slice none 0 0, .slice none 0 0], .agg #[.slice none 0 0, .slice none 0 0], .agg #[.slice none 0 0, .slice none 0 0]], []⟩ 8 (by kernel_rfl) (by kernel_rfl) (by kernel_rfl) (by kernel_rfl)) ?_
  intro W base args ds gs before hval0 hW hcnd _
  have hval : ∀ (j : Nat) t v, Try.f7.params[j]? = some t → args[j]? = some v → Value.okWide Try.prog W .any base t v := hval0
  have hW' := hW
  obtain ⟨p, q, hA0, hV, rfl, hfz, hnd⟩ := hW
  have hA : DataW.TrodAll enc Try.prog W 0 (fun _ => true) true Try.f7.params.toList args.toList ds p := hA0
  rw [Try.params7] at hA hval
  obtain ⟨v0, v1, v2, d0, d1, d2, p0, p1, p2, rfl, rfl, rfl, h0, h1, h2⟩ := trodAll_three hA
  obtain ⟨rfl, rfl⟩ := trodVars_none hV
  have hlt : ∀ x ∈ p0 ++ p1 ++ p2, x.block < W.heap.size := fun x hx => hW'.lt x (List.mem_append_left _ hx)
  obtain ⟨Ab, nb, cb, Ab', nb', cb', bv, be, rfl, b1, b2⟩ := open_graph (hval 0 25 v0 rfl rfl) h0 (fun x hx => hlt x (by simp [hx]))
  obtain ⟨Ao, no, co, Ao', no', co', ov, oe, rfl, o1, o2⟩ := open_graph (hval 1 25 v1 rfl rfl) h1 (fun x hx => hlt x (by simp [hx]))
  obtain ⟨At, nt, ct, At', nt', ct', tv, te, rfl, t1, t2⟩ := open_graph (hval 2 25 v2 rfl rfl) h2 (fun x hx => hlt x (by simp [hx]))
  clear hA0 hval0
  refine (unionTurns_any _ _ _ (bv, be) (ov, oe) (tv, te) W ⟨_, _, _, _, _, _, rfl, b1, b2⟩ ⟨_, _, _, _, _, _, rfl, o1, o2⟩ ⟨_, _, _, _, _, _, rfl, t1, t2⟩).mono fun e W' ⟨he, hb⟩ => ?_
  subst he
  exact ⟨_, rfl, post_true (by kernel_rfl) rfl (by kernel_rfl) hW' rfl rfl rfl hb⟩

set_option maxRecDepth 100000 in
theorem unionTurns_holds : Rows.UnionTurnsSaid :=
  OpenClaim.holds_of_wide 7 Try.f7 rfl rfl rfl rfl rfl rfl rfl ⟨rfl, rfl, rfl, rfl, rfl⟩ rfl rfl rfl rfl rfl (by kernel_rfl) Try.func7 (by kernel_rfl)
    (of_decide_eq_true (by kernel_rfl)) (by unfold Func.isWrapper; first | (rw [if_pos (by decide +kernel)]; kernel_rfl) | (rw [if_neg (by decide +kernel)]; exact ⟨rfl, rfl⟩))
    (fun os started H enc _ => unionTurns_lifted os started H enc)
end Go.Proofs.Ytklmckbpbloonaa
