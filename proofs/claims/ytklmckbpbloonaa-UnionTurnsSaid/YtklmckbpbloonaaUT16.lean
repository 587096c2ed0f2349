/- Parts of the proof: AwakeU. -/
import Derived.Test.YtklmckbpbloonaaUT6
import Derived.Test.YtklmckbpbloonaaUT15
namespace Go.Proofs.Ytklmckbpbloonaa
open Go.RowKit

theorem u32s_12 : u32s [1, 2] := by intro x hx; simp at hx; omega
theorem u32s_2 : u32s [2] := by intro x hx; simp at hx; omega
theorem u32s_23 : u32s [2, 3] := by intro x hx; simp at hx; omega
theorem all_ex : allL [1, 2] [1, 2, 3] [2] = [2, 3] := by decide
theorem alln_ex : allN [1, 2] [1, 2, 3] [2] = 2 := by decide
set_option maxRecDepth 100000 in
theorem awake18 (w : World) : Calls Try.prog 27 #[] w fun e w' => e = .returned (.bool true) ∧ Below w.heap.size w w' := by
  have hb := (((Below.refl w.heap.size w).alloc (Nat.le_refl _) (.cells (U [1, 2]).toArray 31)).alloc (by simp) (.cells (U [1, 2, 3]).toArray 31)).alloc (by simp; omega) (.cells (U [2]).toArray 31)
  have h1 := (RdU.blk (((Blk.new w 31 (U [1, 2]).toArray).alloc (.cells (U [1, 2, 3]).toArray 31)).alloc (.cells (U [2]).toArray 31)) u32s_12 (by decide))
  have h2 := (RdU.blk ((Blk.new (w.alloc (.cells (U [1, 2]).toArray 31)) 31 (U [1, 2, 3]).toArray).alloc (.cells (U [2]).toArray 31)) u32s_123 (by decide))
  have h3 := (RdU.blk (Blk.new ((w.alloc (.cells (U [1, 2]).toArray 31)).alloc (.cells (U [1, 2, 3]).toArray 31)) 31 (U [2]).toArray) u32s_2 (by decide))
  simp only [World.size_alloc] at h1 h2 h3
  have HB := Lib.hid hb
  have H1 := Lib.hid h1
  have H2 := Lib.hid h2
  have H3 := Lib.hid h3
  clear hb h1 h2 h3
  go_enter Try.func27, Try.ntmps27
  go_wp2_with (first
    | (go_at_call 31; refine (pick_any _ _ _ _ _ _ _ _ _ _ [1, 2] [1, 2, 3] [2] _ H1.out H2.out H3.out (by decide) (by decide) (by simp)).mono ?_; rintro e w1 ⟨r1, A1, c1, rfl, k1, k2⟩; rw [all_ex, alln_ex] at k1; rw [alln_ex]; have hs1 := k2.size; simp only [World.size_alloc] at hs1)
    | (go_at_call 22; refine (rsame_any _ _ _ _ _ _ _ [2, 3] [2, 3] _ ((k1.alloc _).rd) (RdU.blk (Blk.new w1 31 (U [2, 3]).toArray) u32s_23 (by decide))).mono ?_; rintro e w2 ⟨rfl, q, rfl⟩)
    | (go_at_call 64; refine (awake9up _).mono ?_; rintro e w5 ⟨rfl, q4⟩))
  go_ret
  refine ⟨by simp, ?_⟩
  have e1 := (HB.out.trans (k2.mono (by simp; omega))).alloc (by omega) (.cells (U [2, 3]).toArray 31)
  exact (below_drewN e1 q).trans (q4.mono (show w.heap.size ≤ ((w1.alloc _).drewN q).heap.size by have := e1.size; exact this))
end Go.Proofs.Ytklmckbpbloonaa
