/- Two blocks compared. -/
import Derived.Test.YtnbaamjdlgojaaaDkM
import Derived.DeepKeys
namespace Go.Proofs.Ytnbaamjdlgojaaa
open Go.RowKit

theorem mapM_range {α : Type} (f : Nat → Option α) (g : Nat → α) : ∀ (l : List Nat), (∀ i ∈ l, f i = some (g i)) → l.mapM f = some (l.map g)
  | [], _ => rfl
  | i :: l, h => by
    rw [List.mapM_cons, h i List.mem_cons_self, mapM_range f g l (fun j hj => h j (List.mem_cons_of_mem _ hj))]; rfl
set_option maxRecDepth 100000 in
theorem cellsB : Try.prog.cellsOf 33 = 512 := by kernel_rfl
set_option maxRecDepth 100000 in
theorem cellsU : Try.prog.cellsOf 5 = 1 := by kernel_rfl
set_option maxRecDepth 100000 in
theorem keyB : Try.prog.keyTypeAt 3 33 = true := by kernel_rfl
def litB (b : Bl) : List Lit := b.map (Lit.int .u8)
theorem litB_inj : ∀ {b b' : Bl}, litB b = litB b' → b = b'
  | [], [], _ => rfl
  | [], _ :: _, h => by simp [litB] at h
  | _ :: _, [], h => by simp [litB] at h
  | x :: b, y :: b', h => by
    simp only [litB, List.map_cons, List.cons.injEq, Lit.int.injEq, true_and] at h
    rw [h.1, litB_inj (b := b) (b' := b') h.2]
theorem flat_single {α β : Type} (g : α → β) : ∀ l : List α, (l.map fun i => [g i]).flatten = l.map g
  | [] => rfl
  | x :: l => by rw [List.map_cons, List.flatten_cons, flat_single g l]; rfl
set_option maxRecDepth 100000 in
theorem keyLitsB {b : Bl} (h : okB b) : Try.prog.keyLits 2 33 (ca b).toList = some (litB b) := by
  have hl := bc_len b
  rw [h.1] at hl
  have e0 : (ca b).toList = bc b := by simp [ca]
  unfold Program.keyLits
  rw [Try.underlying33, e0]
  simp only [cellsB, cellsU, hl, if_true]
  have step : ∀ i ∈ List.range 512, Try.prog.keyLits 1 5 (((bc b).drop (i * 1)).take 1) = some [Lit.int .u8 (b.getD i 0)] := by
    intro i hi
    have hi' : i < b.length := by rw [h.1]; exact List.mem_range.1 hi
    have e1 : ((bc b).drop (i * 1)).take 1 = [Value.int .u8 (b.getD i 0)] := by
      unfold bc
      rw [Nat.mul_one, List.drop_eq_getElem_cons (by rw [List.length_map]; exact hi'), List.take_succ_cons, List.take_zero, List.getElem_map, List.getD_eq_getElem?_getD, List.getElem?_eq_getElem hi']
      rfl
    rw [e1]
    have hb := h.2 (b.getD i 0) (by rw [List.getD_eq_getElem?_getD, List.getElem?_eq_getElem hi']; exact List.getElem_mem hi')
    have hw : (Lit.int .u8 (b.getD i 0)).wf = true := by
      simp [Lit.wf, IntKind.min, IntKind.max, IntKind.bits, IntKind.signed]
      have e : b.getD i 0 = b[i]?.getD 0 := List.getD_eq_getElem?_getD
      rw [← e]; omega
    unfold Program.keyLits
    rw [Try.underlying5]
    simp only [hw, and_self, if_true]
  rw [mapM_range _ _ _ step]
  simp only [Option.map_some, Option.some.injEq]
  rw [flat_single]
  apply List.ext_getElem?
  intro i
  by_cases hi : i < 512
  · have hi' : i < b.length := by rw [h.1]; exact hi
    unfold litB
    rw [List.getElem?_map, List.getElem?_range hi, List.getElem?_map, List.getElem?_eq_getElem hi']
    show some (Lit.int .u8 (b.getD i 0)) = some (Lit.int .u8 b[i])
    rw [List.getD_eq_getElem?_getD, List.getElem?_eq_getElem hi']; rfl
  · rw [List.getElem?_eq_none (by rw [List.length_map, List.length_range]; omega), List.getElem?_eq_none (by unfold litB; rw [List.length_map, h.1]; omega)]
set_option maxRecDepth 100000 in
theorem formB {b : Bl} (h : okB b) : (Value.agg (ca b)).formed Try.prog 33 = true := by
  unfold Value.formed
  rw [Try.underlying33, cellsB]
  simp only [ca_size, h.1]; rfl
/-- '==' at two blocks. -/
theorem equalB {b b' : Bl} (h : okB b) (h' : okB b') (w : World) : (Op.equalIn 10000 33 (.agg (ca b)) (.agg (ca b'))).run Try.prog w = .ok (decide (b = b')) w := by
  obtain ⟨r, hr, hiff⟩ := run_equalIn_deep (P := Try.prog) 9997 3 33 keyB w 2 2 (.agg (ca b)) (.agg (ca b')) (litB b) (litB b') (formB h) (formB h') (keyLitsB h) (keyLitsB h')
  have e : r = decide (b = b') := by
    rw [Bool.eq_iff_iff, hiff, decide_eq_true_iff]
    exact ⟨litB_inj, fun e => by rw [e]⟩
  rw [← e]; exact hr
end Go.Proofs.Ytnbaamjdlgojaaa
