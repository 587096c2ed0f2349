/- Walks: what lasts in a sector; a sector read. -/
import Derived.Test.YtnbaamjdlgojaaaDkX
namespace Go.Proofs.Ytnbaamjdlgojaaa
open Go.RowKit

def lastB (s : DS) (n : Int) : Bl := if n < 0 ∨ (s.last.length : Int) ≤ n then zB else s.last.getD n.toNat []
set_option maxRecDepth 100000 in
set_option maxHeartbeats 1000000 in
theorem lasts_any (g b l : Nat) (s : DS) (n : Int) (w : World) (h : DkAt w g b l s) : Calls Try.prog 10 #[.pointer (some ⟨g, 0, none⟩), .int .i64 n] w fun e w' => e = .returned (.agg (ca (lastB s n))) ∧ Below w.heap.size w w' := by
  have hz := zeroB
  have hbd := buildB
  have h0 := BlAt.fresh w
  have hB := (Below.refl w.heap.size w).alloc (Nat.le_refl _) (.cells (ca zB) 33)
  have H0 := Lib.hid h0
  have HB := Lib.hid hB
  have HD := Lib.hid (h.below hB)
  obtain ⟨c0, c1, c2, c3, c4⟩ := h.c
  have hgl := h.head.lt
  have hlo := h.ok.lo
  have hhi := h.ok.hi
  clear h0 hB h
  by_cases h1 : n < 0
  · have E : Hid (lastB s n = zB) := by show _ = _; unfold lastB; rw [if_pos (.inl h1)]
    go_enter Try.func10, Try.ntmps10
    go_wp2_with (first | (refine wpList_storeB rfl (.tmp 4) (.tmp 20) rfl w.heap.size zB zB rfl rfl H0.out zB_ok ?_; intro w1 k1 k2 k3))
    refine bodyPost_ret (v := .agg (ca zB)) (results_cell_row Try.results10 _ w1 w.heap.size 33 (ca zB) (0, 0) _ rfl k1.1 Try.underlying33 rfl (infoB' zB_ok)) rfl ⟨by rw [E.out], HB.out.trans (k2.below (by simp) (by simp))⟩
  · have h1' : decide (n < 0) = false := by simp; omega
    by_cases h2 : (s.last.length : Int) ≤ n
    · have E : Hid (lastB s n = zB) := by show _ = _; unfold lastB; rw [if_pos (.inr h2)]
      go_enter Try.func10, Try.ntmps10
      go_wp2_with (first | (refine wpList_storeB rfl (.tmp 4) (.tmp 20) rfl w.heap.size zB zB rfl rfl H0.out zB_ok ?_; intro w1 k1 k2 k3))
      refine bodyPost_ret (v := .agg (ca zB)) (results_cell_row Try.results10 _ w1 w.heap.size 33 (ca zB) (0, 0) _ rfl k1.1 Try.underlying33 rfl (infoB' zB_ok)) rfl ⟨by rw [E.out], HB.out.trans (k2.below (by simp) (by simp))⟩
    · have h2' : decide ((s.last.length : Int) ≤ n) = false := by simp; omega
      have h3 : n < (s.last.length : Int) := by omega
      have h4 : 0 ≤ n := by omega
      have hi : n.toNat < s.last.length := by omega
      have E : Hid (s.last[n.toNat]? = some (lastB s n)) := by
        show _ = _; unfold lastB; rw [if_neg (by omega), List.getD_eq_getElem?_getD, List.getElem?_eq_getElem hi]; rfl
      have hok := HD.out.ok.last _ (List.mem_of_getElem? E.out)
      obtain ⟨m, rfl⟩ : ∃ m : Nat, n = m := ⟨n.toNat, by omega⟩
      simp only [Int.toNat_natCast] at hi E
      go_enter Try.func10, Try.ntmps10
      go_wp2_with (first | (refine wpList_loadAt rfl (.tmp 26) rfl l m s.last (lastB s m) (by simp [Act.eval]) HD.out.last E.out ?_) | (refine wpList_storeB rfl (.tmp 4) (.tmp 27) rfl w.heap.size zB (lastB s m) rfl rfl H0.out hok ?_; intro w1 k1 k2 k3))
      refine bodyPost_ret (v := .agg (ca (lastB s m))) (results_cell_row Try.results10 _ w1 w.heap.size 33 (ca (lastB s m)) (0, 0) _ rfl k1.1 Try.underlying33 rfl (infoB' hok)) rfl ⟨rfl, HB.out.trans (k2.below (by simp) (by simp))⟩
end Go.Proofs.Ytnbaamjdlgojaaa
