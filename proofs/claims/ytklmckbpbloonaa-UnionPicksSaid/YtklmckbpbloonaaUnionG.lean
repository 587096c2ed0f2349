/- Walks: layer 18, rows of one row, and of none. -/
import Derived.Test.YtklmckbpbloonaaUnionF
namespace Go.Proofs.Ytklmckbpbloonaa
open Go.RowKit

theorem RdUU.one {w : World} {g B : Nat} {t : TypeId} {h0 : Option Addr × Nat × Nat} {x0 : List Int} (h : Blk w g t #[hdV h0]) (hg : g < B)
    (a0 : RdU w B h0.1 h0.2.1 h0.2.2 x0) : RdUU w B (some ⟨g, 0, none⟩) 1 1 [x0] := by
  refine ⟨[h0], ⟨rfl, fun _ => ⟨_, rfl, hg, fun j u hu => ?_⟩⟩, Nat.le_refl _, by omega, (fun h => by cases h), rfl, fun j h xs e1 e2 => ?_⟩
  · rw [Addr.add_lit, Nat.zero_add, h.cell, ← hu]; simp
  · match j, e1, e2 with
    | 0, e1, e2 => simp at e1 e2; subst e1; subst e2; exact a0
    | k + 1, e1, e2 => simp at e1
theorem both_none (w : World) : Calls Try.prog 33 #[.slice none 0 0] w fun e w' => e = .returned (.slice none 0 0) ∧ w = w' := by
  go_enter Try.func33, Try.ntmps33
  go_wp2
  go_ret
  exact ⟨rfl, rfl⟩
theorem both_full (xs : List Int) : fltTo xs (pBoth []) xs.length = xs := by
  unfold fltTo pBoth; rw [List.take_length]; simp
theorem bothn_full (xs : List Int) : fltN xs (pBoth []) xs.length = xs.length := by
  unfold fltN; rw [both_full]
theorem sameB_self (xs : List Int) : sameB xs xs = true := by simp [sameB]
/-- All that can be read goes on to be read, to the end of the heap. -/
theorem RdU.on {w w' : World} {n c : Nat} {A : Option Addr} {xs : List Int} (h : RdU w w.heap.size A n c xs) (hb : Below w.heap.size w w') : RdU w' w'.heap.size A n c xs := (h.below hb).more hb.size
theorem Blk.on {w w' : World} {g : Nat} {t : TypeId} {cs : Array Value} (h : Blk w g t cs) (hb : Below w.heap.size w w') : Blk w' g t cs := h.below hb h.lt
theorem below_new (w : World) (o : Obj) : Below w.heap.size w (w.alloc o) := (Below.refl w.heap.size w).alloc (Nat.le_refl _) o
end Go.Proofs.Ytklmckbpbloonaa
