/- Walks: what GraphLooks asks to be kept. -/
import Derived.Test.YtklmckbpbloonaaKeep
namespace Go.Proofs.Ytklmckbpbloonaa
open Go.RowKit

def oddP (odd : Bool) (e : Edg) : Bool := (e.1 % 2 == 1) == odd
set_option maxRecDepth 100000 in
theorem oddP_any (odd : Bool) (g : Nat) (e : Edg) (he : 0 ≤ e.1 ∧ e.1 < 4294967296) (w : World) (hc : w.cell? ⟨g, 0, none⟩ = some (.bool odd)) (hg : g < w.heap.size) :
    Calls Try.prog 26 #[.agg #[.int .u32 e.1, .int .u32 e.2.1, .int .u32 e.2.2], .pointer (some ⟨g, 0, none⟩)] w fun r w' => r = .returned (.bool (oddP odd e)) ∧ Below w.heap.size w w' := by
  obtain ⟨h1, h2⟩ := he
  have hb : Below w.heap.size w (w.alloc (.cells #[.int .u32 e.1, .int .u32 e.2.1, .int .u32 e.2.2] 39)) := (Below.refl w.heap.size w).alloc (Nat.le_refl _) _
  have HB := Lib.hid hb
  clear hb
  unfold oddP
  go_enter Try.func26, Try.ntmps26
  go_wp2
  go_ret
  exact ⟨rfl, HB.out⟩
end Go.Proofs.Ytklmckbpbloonaa
