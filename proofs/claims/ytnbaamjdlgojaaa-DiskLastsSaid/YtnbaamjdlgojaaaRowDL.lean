/- DiskLasts returns true, whatever two rows of acts and whatever row of bools it is given, and all read behind the call as they read before. No condition. -/
import Derived.Test.YtnbaamjdlgojaaaRows
import Derived.Test.YtnbaamjdlgojaaaLawDL
import Derived.SizedLaws
namespace Go.Proofs.Ytnbaamjdlgojaaa
open Go.ChangeShapes Go.WideShapes Go.ChangeAt Go.RowKit

theorem ownPDL : ownKnob Try.prog.godebug = none := by kernel_rfl
section
variable {H : Type} {enc : TypeId × Value → H} {W : World}
set_option maxRecDepth 100000 in
theorem open_acts_arg {b0 : Nat} {v : Value} {d : DataW H} {p : List MemPlace} (hv : Value.okWide Try.prog W .any b0 22 v) (h : DataW.Trod enc Try.prog W 0 (fun _ => true) true 22 v d p) (hlt : ∀ x ∈ p, x.block < W.heap.size) :
    ∃ A n c dl, v = .slice A n c ∧ RdA W W.heap.size A n c dl ∧ (n = 0 ∨ ∃ el sp, d = .slice el sp ∧ el.length = n) := by
  obtain ⟨a0, n, c, rfl⟩ := okWide_slice Try.underlying22 hv
  obtain ⟨fuel, hf⟩ := h
  obtain ⟨A, n', c', dl, e, k, kd⟩ := open_acts (y := (d, p)) (v := .slice a0 n c) (by simpa [Value.cells] using hf) hlt
  exact ⟨A, n', c', dl, e, k, kd⟩
set_option maxRecDepth 100000 in
theorem open_bs_arg {b0 : Nat} {v : Value} {d : DataW H} {p : List MemPlace} (hv : Value.okWide Try.prog W .any b0 23 v) (h : DataW.Trod enc Try.prog W 0 (fun _ => true) true 23 v d p) (hlt : ∀ x ∈ p, x.block < W.heap.size) :
    ∃ A n c xs, v = .slice A n c ∧ RdB W W.heap.size A n c xs := by
  obtain ⟨a0, n, c, rfl⟩ := okWide_slice Try.underlying23 hv
  obtain ⟨fuel, hf⟩ := h
  obtain ⟨A, n', c', xs, e, k⟩ := open_bs (y := (d, p)) (v := .slice a0 n c) (by simpa [Value.cells] using hf) hlt
  exact ⟨A, n', c', xs, e, k⟩
end
set_option maxRecDepth 100000 in
theorem diskLasts_lifted (os : Os) (started : os.Started) (H : Type) (enc : TypeId × Value → H) :
    ReturnsInHanded {} Try.checked os 3 .any (Rows.diskLastsSpec.pre6 enc Try.prog Try.f3 Rows.diskLastsRow.domain false) (Rows.diskLastsSpec.post enc Try.prog Try.f3 false true false false) := by
  refine returnsInHanded_of_change_sized (C := Try.checked) ownPDL started (by kernel_rfl) Try.func3
    (ChangeSpec.witness6 (enc := enc) (C := Try.checked) false ⟨#[], #[.slice none 0 0, .slice none 0 0, .slice none 0 0], []⟩ 8 (by kernel_rfl) (by kernel_rfl) (by kernel_rfl) (by kernel_rfl)) ?_
  intro W base args ds gs before hval0 hW hcnd hsize _
  have hval : ∀ (j : Nat) t v, Try.f3.params[j]? = some t → args[j]? = some v → Value.okWide Try.prog W .any base t v := hval0
  have hW' := hW
  obtain ⟨p, q, hA0, hV, rfl, hfz, hnd⟩ := hW
  have hA : DataW.TrodAll enc Try.prog W 0 (fun _ => true) true Try.f3.params.toList args.toList ds p := hA0
  rw [Try.params3] at hA hval hsize
  obtain ⟨v0, v1, v2, d0, d1, d2, p0, p1, p2, rfl, rfl, rfl, h0, h1, h2⟩ := trodAll_three hA
  obtain ⟨rfl, rfl⟩ := trodVars_none hV
  have hlt : ∀ x ∈ p0 ++ p1 ++ p2, x.block < W.heap.size := fun x hx => hW'.lt x (List.mem_append_left _ hx)
  obtain ⟨A1, n1, c1, first, rfl, k0, z0⟩ := open_acts_arg (hval 0 22 v0 rfl rfl) h0 (fun x hx => hlt x (by simp [hx]))
  obtain ⟨A2, n2, c2, then_, rfl, k1, z1⟩ := open_acts_arg (hval 1 22 v1 rfl rfl) h1 (fun x hx => hlt x (by simp [hx]))
  obtain ⟨A3, n3, c3, kept, rfl, k2⟩ := open_bs_arg (hval 2 23 v2 rfl rfl) h2 (fun x hx => hlt x (by simp [hx]))
  clear hA0 hval0
  have hy : Try.checked.prog.bytesOf 30 = 48 := by kernel_rfl
  have b0 : n1 ≤ 140737488355328 := by
    rcases z0 with e | ⟨el, sp, rfl, e⟩
    · omega
    · have := sized_slice hsize (j := 0) rfl rfl Try.underlying22
      rw [hy] at this
      have hr := reachBytes_lt
      omega
  have b1 : n2 ≤ 140737488355328 := by
    rcases z1 with e | ⟨el, sp, rfl, e⟩
    · omega
    · have := sized_slice hsize (j := 1) rfl rfl Try.underlying22
      rw [hy] at this
      have hr := reachBytes_lt
      omega
  refine (diskLasts_any A1 A2 A3 n1 c1 n2 c2 n3 c3 first then_ kept W k0 k1 k2 b0 b1).mono fun e W' ⟨he, hb⟩ => ?_
  subst he
  exact ⟨_, rfl, post_true (by kernel_rfl) rfl (by kernel_rfl) hW' rfl rfl rfl hb⟩

set_option maxRecDepth 100000 in
theorem diskLasts_holds : Rows.DiskLastsSaid :=
  OpenClaim.holds_of_wide 3 Try.f3 rfl rfl rfl rfl rfl rfl rfl ⟨rfl, rfl, rfl, rfl, rfl⟩ rfl rfl rfl rfl rfl (by kernel_rfl) Try.func3 (by kernel_rfl)
    (of_decide_eq_true (by kernel_rfl)) (by unfold Func.isWrapper; first | (rw [if_pos (by decide +kernel)]; kernel_rfl) | (rw [if_neg (by decide +kernel)]; exact ⟨rfl, rfl⟩))
    (fun os started H enc _ => diskLasts_lifted os started H enc)
end Go.Proofs.Ytnbaamjdlgojaaa
