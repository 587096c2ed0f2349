/- The walk of the law DiskNil. -/
import Derived.Test.YtnbaamjdlgojaaaDkA
import Derived.Test.YtnbaamjdlgojaaaDkE
namespace Go.Proofs.Ytnbaamjdlgojaaa
open Go.RowKit

set_option maxRecDepth 100000 in
set_option maxHeartbeats 2000000 in
theorem diskNil_any (w : World) : Calls Try.prog 4 #[] w fun e w' => e = .returned (.bool true) ∧ Below w.heap.size w w' := by
  have hz := zeroB
  have hbd := buildB
  have heq : ∀ W, (Op.equalIn 10000 33 (.agg (ca zB)) (.agg (ca zB))).run Try.prog W = .ok true W := fun W => by rw [equalB zB_ok zB_ok]; simp
  have HB0 := Lib.hid ((Below.refl w.heap.size w).alloc (Nat.le_refl _) (.cells #[.bool true] 4))
  go_enter Try.func4, Try.ntmps4
  go_wp2_with fail
  refine (fuse_nil _ _).mono ?_
  rintro e w1 ⟨rfl, rfl⟩
  go_wp2_with fail
  refine (crash_nil _ _ _ _).mono ?_
  rintro e w1 ⟨rfl, rfl⟩
  go_wp2_with fail
  refine (read_nil _ _).mono ?_
  rintro e w3 ⟨rfl, B3⟩
  have Z3 := HB0.out.trans (B3.mono (by simp))
  have K3 := Lib.hid (BlAt.fresh w3)
  go_wp2_with (first
    | ((with_reducible refine wpList_storeB (o := ⟨none, .store _ (.tmp 2) _, _, _, _, _⟩) ?_ (.tmp 2) (.tmp 12) ?_ w3.heap.size zB zB ?_ ?_ K3.out zB_ok ?_); rfl; rfl; rfl; rfl; intro w4 k4 c4 s4))
  have Z4 := (Z3.alloc Z3.size (.cells (ca zB) 33)).trans (c4.below (by have := Z3.size; simp; omega) (by have := Z3.size; simp; omega))
  clear s4 c4 k4 K3 Z3 B3
  refine (awake2 _).mono ?_
  rintro e w5 ⟨rfl, B5⟩
  have Z5 := Z4.trans (B5.mono Z4.size)
  clear B5 Z4
  go_wp2_with fail
  refine (write_nil _ zB _).mono ?_
  rintro e w6 ⟨rfl, B6⟩
  have Z6 := Z5.trans (B6.mono Z5.size)
  clear B6 Z5
  go_wp2_with fail
  refine (barrier_nil _).mono ?_
  rintro e w7 ⟨rfl, rfl⟩
  go_wp2_with fail
  refine (sectors_nil _).mono ?_
  rintro e w7 ⟨rfl, rfl⟩
  go_wp2_with fail
  refine (down_nil _).mono ?_
  rintro e w7 ⟨rfl, rfl⟩
  go_wp2_with fail
  refine (steps_nil _).mono ?_
  rintro e w7 ⟨rfl, rfl⟩
  go_wp2_with fail
  refine (waits_nil _).mono ?_
  rintro e w7 ⟨rfl, rfl⟩
  go_wp2_with fail
  refine (lasts_nil _ _).mono ?_
  rintro e w8 ⟨rfl, B8⟩
  have Z8 := Z6.trans (B8.mono Z6.size)
  clear B8 Z6
  go_wp2
  go_ret
  exact ⟨rfl, Z8⟩
end Go.Proofs.Ytnbaamjdlgojaaa
