/- The walk of the law GraphChecks. -/
import Derived.Test.YtklmckbpbloonaaAwake
import Derived.Deep.QuietTactic
import Derived.BigQuiet
namespace Go.Proofs.Ytklmckbpbloonaa
open Go.RowKit

set_option maxRecDepth 100000 in
theorem graphChecks_any (A A' : Option Addr) (n c n' c' : Nat) (vs : List Int) (es : List Edg) (w : World) (h : RdU w w.heap.size A n c vs) (h' : RdE w w.heap.size A' n' c' es) :
    Calls Try.prog 3 #[.agg #[.slice A n c, .slice A' n' c']] w fun e w' => e = .returned (.bool true) ∧ Below w.heap.size w w' := by
  have hX0 := Blk.new w 25 #[.slice A n c, .slice A' n' c']
  have hb0 := (Below.refl w.heap.size w).alloc (Nat.le_refl _) (.cells #[.slice A n c, .slice A' n' c'] 25)
  have HX0 := Lib.hid hX0
  have HB0 := Lib.hid hb0
  clear hX0 hb0
  have AW : ∀ W : World, Calls Try.prog 13 #[] W fun e w' => e = .returned (.bool true) ∧ Below W.heap.size W w' := awake9
  by_cases h1 : 70 < n
  · have h1' : (70 : Int) < n := by omega
    go_enter Try.func3, Try.ntmps3
    go_wp2_with (go_at_call 13; refine (AW _).mono ?_; rintro e w1 ⟨rfl, k1⟩; have hX := HX0.out.below k1 HX0.out.lt; have hg := hX.c2)
    go_quiet (fail)
    go_wp2
    go_ret
    exact ⟨rfl, below_drewN (HB0.out.trans (k1.mono (by simp))) _⟩
  · have h1' : decide ((70 : Int) < n) = false := by simp; omega
    by_cases h2 : 170 < n'
    · have h2' : (170 : Int) < n' := by omega
      go_enter Try.func3, Try.ntmps3
      go_wp2_with (go_at_call 13; refine (AW _).mono ?_; rintro e w1 ⟨rfl, k1⟩; have hX := HX0.out.below k1 HX0.out.lt; have hg := hX.c2)
      go_quiet (fail)
      go_wp2
      go_ret
      exact ⟨rfl, below_drewN (HB0.out.trans (k1.mono (by simp))) _⟩
    · have h2' : decide ((170 : Int) < n') = false := by simp; omega
      go_enter Try.func3, Try.ntmps3
      go_wp2_with (go_at_call 13; refine (AW _).mono ?_; rintro e w1 ⟨rfl, k1⟩; have hX := HX0.out.below k1 HX0.out.lt; have hg := hX.c2; have hz := k1.size; simp only [World.size_alloc] at hz; have hB1 := HB0.out.trans (k1.mono (by simp)); have hR := Lib.hid (h.below hB1); have hR' := Lib.hid (h'.below hB1))
      go_region_law (first
        | (go_simp; go_at_call 14; refine (check_any w.heap.size _ _ _ _ _ _ vs es _ hR.out.drew hR'.out.drew (by simp; omega)).mono ?_; rintro e w2 ⟨rfl, k2⟩; have hX2 := hX.drew.below k2 (by simpa using hX.lt); have hg2 := hX2.c2; have hz2 := k2.size; have hR2 := Lib.hid (hR.out.drew.below (k2.mono (by simp; omega))); have hR2' := Lib.hid (hR'.out.drew.below (k2.mono (by simp; omega))))
        | (go_simp; go_at_call 15; refine (rcheck_any w.heap.size _ _ _ _ _ _ vs es _ hR2.out hR2'.out (by simp at hz2; omega)).mono ?_; rintro e w3 ⟨rfl, k3⟩))
      all_goals
        go_wp2
        go_ret
        refine ⟨rfl, ?_⟩
        have hz3 : w1.heap.size ≤ w2.heap.size := hz2
        exact (hB1.drew.trans (k2.mono (show w.heap.size ≤ w1.heap.size by omega))).trans (k3.mono (by omega))
end Go.Proofs.Ytklmckbpbloonaa
