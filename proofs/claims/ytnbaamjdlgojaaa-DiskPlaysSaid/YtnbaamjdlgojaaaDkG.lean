/- Walks: the reference's Read. -/
import Derived.Test.YtnbaamjdlgojaaaDkF
namespace Go.Proofs.Ytnbaamjdlgojaaa
open Go.RowKit

theorem shown_read {s : DS} {k : Nat} (hd : s.down = false) (hk : k < s.last.length) : (shownL s)[k]? = some (readB s k) := by
  have hm : mayN s (k : Int) = 0 := by unfold mayN; rw [hd, if_neg (by simp), if_neg (by omega)]
  unfold shownL readB
  rw [laidK_at hk, if_neg (by simp), if_pos hm]; rfl
set_option maxRecDepth 100000 in
set_option maxHeartbeats 1000000 in
theorem rread_any (h sh la wa : Nat) (s : DS) (n : Int) (w : World) (r : RefAt w h sh la wa s) : Calls Try.prog 28 #[.pointer (some ⟨h, 0, none⟩), .int .i64 n] w fun e w' => e = .returned (.tuple #[.agg (ca (readB s n)), .int .i64 (mayN s n)]) ∧ Below w.heap.size w w' := by
  have hz := zeroB
  have hbd := buildB
  have hB := (Below.refl w.heap.size w).alloc (Nat.le_refl _) (.cells (ca zB) 33)
  have H0 := Lib.hid (BlAt.fresh w)
  have HB := Lib.hid hB
  have HR := Lib.hid (r.below hB)
  have hok := Lib.hid (readB_ok r.ok n)
  obtain ⟨c0, c1, c2, c3, c4, c5⟩ := r.c
  have hgl := r.head.lt
  have hlo := r.ok.lo
  have hhi := r.ok.hi
  clear hB r
  cases hd : s.down
  · rw [hd] at c5
    have HD := Lib.hid hd
    clear hd
    by_cases h1 : n < 0
    · have E1 : Hid (mayN s n = 2) := by show _ = _; unfold mayN; rw [HD.out, if_neg (by simp), if_pos (.inl h1)]
      have E2 : Hid (readB s n = zB) := by show _ = _; unfold readB; rw [E1.out, if_neg (by omega)]
      go_enter Try.func28, Try.ntmps28
      go_wp2_with (first
        | ((with_reducible refine wpList_storeB (o := ⟨none, .store _ (.tmp 4) _, _, _, _, _⟩) ?_ (.tmp 4) (.tmp 22) ?_ w.heap.size zB zB ?_ ?_ H0.out zB_ok ?_); rfl; rfl; rfl; rfl; intro w1 k1 k2 k3))
      have hl := run_loadB k1
      refine bodyPost_ret (v := .tuple #[.agg (ca zB), .int .i64 2]) (by simp [results, Try.results28, asAddr, hl]) rfl ⟨by rw [E1.out, E2.out], HB.out.trans (k2.below (by simp) (by simp))⟩
    · have h1' : decide (n < 0) = false := by simp; omega
      by_cases h2 : (s.last.length : Int) ≤ n
      · have E1 : Hid (mayN s n = 2) := by show _ = _; unfold mayN; rw [HD.out, if_neg (by simp), if_pos (.inr h2)]
        have E2 : Hid (readB s n = zB) := by show _ = _; unfold readB; rw [E1.out, if_neg (by omega)]
        go_enter Try.func28, Try.ntmps28
        go_wp2_with (first
          | ((with_reducible refine wpList_storeB (o := ⟨none, .store _ (.tmp 4) _, _, _, _, _⟩) ?_ (.tmp 4) (.tmp 22) ?_ w.heap.size zB zB ?_ ?_ H0.out zB_ok ?_); rfl; rfl; rfl; rfl; intro w1 k1 k2 k3))
        have hl := run_loadB k1
        refine bodyPost_ret (v := .tuple #[.agg (ca zB), .int .i64 2]) (by simp [results, Try.results28, asAddr, hl]) rfl ⟨by rw [E1.out, E2.out], HB.out.trans (k2.below (by simp) (by simp))⟩
      · have h2' : decide ((s.last.length : Int) ≤ n) = false := by simp; omega
        have h3 : n < (s.last.length : Int) := by omega
        obtain ⟨m, rfl⟩ : ∃ m : Nat, n = m := ⟨n.toNat, by omega⟩
        have hm : m < s.last.length := by omega
        have E1 : Hid (mayN s (m : Int) = 0) := by show _ = _; unfold mayN; rw [HD.out, if_neg (by simp), if_neg (by omega)]
        have E2 := Lib.hid (shown_read HD.out hm)
        go_enter Try.func28, Try.ntmps28
        go_wp2_with (first
          | ((with_reducible refine wpList_loadAt (o := ⟨some 29, _, _, _, _, _⟩) ?_ (.tmp 28) ?_ sh m (shownL s) (readB s m) ?_ HR.out.shown E2.out ?_); rfl; rfl; simp [Act.eval])
          | ((with_reducible refine wpList_storeB (o := ⟨none, .store _ (.tmp 4) _, _, _, _, _⟩) ?_ (.tmp 4) (.tmp 29) ?_ w.heap.size zB (readB s m) ?_ ?_ H0.out hok.out ?_); rfl; rfl; rfl; rfl; intro w1 k1 k2 k3))
        have hl := run_loadB k1
        refine bodyPost_ret (v := .tuple #[.agg (ca (readB s m)), .int .i64 0]) (by simp [results, Try.results28, asAddr, hl]) rfl ⟨by rw [E1.out], HB.out.trans (k2.below (by simp) (by simp))⟩
  · rw [hd] at c5
    have E1 : Hid (mayN s n = 13) := by show _ = _; unfold mayN; rw [hd, if_pos rfl]
    have E2 : Hid (readB s n = zB) := by show _ = _; unfold readB; rw [E1.out, if_neg (by omega)]
    clear hd
    go_enter Try.func28, Try.ntmps28
    go_wp2_with (first
      | ((with_reducible refine wpList_storeB (o := ⟨none, .store _ (.tmp 4) _, _, _, _, _⟩) ?_ (.tmp 4) (.tmp 10) ?_ w.heap.size zB zB ?_ ?_ H0.out zB_ok ?_); rfl; rfl; rfl; rfl; intro w1 k1 k2 k3))
    have hl := run_loadB k1
    refine bodyPost_ret (v := .tuple #[.agg (ca zB), .int .i64 13]) (by simp [results, Try.results28, asAddr, hl]) rfl ⟨by rw [E1.out, E2.out], HB.out.trans (k2.below (by simp) (by simp))⟩
end Go.Proofs.Ytnbaamjdlgojaaa
