/- Parts of the proof: AwakeB. -/
import Derived.Test.YtklmckbpbloonaaBC41
import Derived.Test.YtklmckbpbloonaaBC42
namespace Go.Proofs.Ytklmckbpbloonaa
open Go.RowKit

def vs13 : List Int := [1, 2, 3, 4, 5]
def es13 : List Edg := [(1, 1, 2), (2, 2, 3), (3, 3, 1), (4, 1, 4), (5, 4, 5), (6, 5, 1)]
theorem u32s_13 : u32s vs13 := by intro x hx; simp [vs13] at hx; omega
theorem edgs_13 : edgs es13 := by intro e he; simp [es13] at he; rcases he with rfl | rfl | rfl | rfl | rfl | rfl <;> simp
theorem gcheck_13 : gcheck vs13 es13 = 0 := by decide +kernel
theorem blocks_13 : (blocksL vs13 es13).length = 2 := by decide +kernel
set_option maxRecDepth 100000 in
theorem awake13 (w : World) : Calls Try.prog 37 #[] w fun e w' => e = .returned (.bool true) ∧ Below w.heap.size w w' := by
  have hb := ((Below.refl w.heap.size w).alloc (Nat.le_refl _) (.cells (U vs13).toArray 31)).alloc (by simp) (.cells (Ed es13).toArray 39)
  have h1 := (RdU.blk ((Blk.new w 31 (U vs13).toArray).alloc (.cells (Ed es13).toArray 39)) u32s_13 (by decide))
  have h2 := (RdE.blk (Blk.new (w.alloc (.cells (U vs13).toArray 31)) 39 (Ed es13).toArray) edgs_13 (by decide))
  simp only [World.size_alloc] at h1 h2
  have hb2 := hb.alloc (by simp; omega) (.cells #[.slice (some ⟨w.heap.size, 0, none⟩) 5 5, .slice (some ⟨w.heap.size + 1, 0, none⟩) 6 6] 25)
  have hx := (Below.refl _ ((w.alloc (.cells (U vs13).toArray 31)).alloc (.cells (Ed es13).toArray 39))).alloc (Nat.le_refl _) (.cells #[.slice (some ⟨w.heap.size, 0, none⟩) 5 5, .slice (some ⟨w.heap.size + 1, 0, none⟩) 6 6] 25)
  simp only [World.size_alloc] at hx
  have HB := Lib.hid hb2
  have H1 := Lib.hid (h1.below hx)
  have H2 := Lib.hid (h2.below hx)
  clear hb hb2 h1 h2 hx
  go_enter Try.func37, Try.ntmps37
  go_wp2_with fail
  refine (blocks_any _ _ _ _ _ _ _ vs13 es13 _ H1.out H2.out (by simp) (gcheck_zero gcheck_13)).mono ?_
  rintro e w1 ⟨A2, c2, rfl, k1, k2⟩
  rw [blocks_13]
  have HB2 := Lib.hid (HB.out.trans (k2.mono HB.out.size))
  clear k1 k2
  go_wp2_with fail
  refine (awake9up _).mono ?_
  rintro e w2 ⟨rfl, k3⟩
  go_wp2_with fail
  go_ret
  exact ⟨rfl, HB2.out.trans (k3.mono HB2.out.size)⟩
end Go.Proofs.Ytklmckbpbloonaa
