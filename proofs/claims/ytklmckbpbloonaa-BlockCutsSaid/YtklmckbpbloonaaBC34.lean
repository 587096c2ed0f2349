/- Parts of the proof: UnionG. -/
import Derived.Test.YtklmckbpbloonaaBC29
namespace Go.Proofs.Ytklmckbpbloonaa
open Go.RowKit

theorem RdUU.one {w : World} {g B : Nat} {t : TypeId} {h0 : Option Addr × Nat × Nat} {x0 : List Int} (h : Blk w g t #[hdV h0]) (hg : g < B)
    (a0 : RdU w B h0.1 h0.2.1 h0.2.2 x0) : RdUU w B (some ⟨g, 0, none⟩) 1 1 [x0] := by
  refine ⟨[h0], ⟨rfl, fun _ => ⟨_, rfl, hg, fun j u hu => ?_⟩⟩, Nat.le_refl _, by omega, (fun h => by cases h), rfl, fun j h xs e1 e2 => ?_⟩
  · rw [Addr.add_lit, Nat.zero_add, h.cell, ← hu]; simp
  · match j, e1, e2 with
    | 0, e1, e2 => simp at e1 e2; subst e1; subst e2; exact a0
    | k + 1, e1, e2 => simp at e1
theorem both_none (w : World) : Calls Try.prog 33 #[.slice none 0 0] w fun e w' => e = .returned (.slice none 0 0) ∧ w = w' := by
  go_enter Try.func33, Try.ntmps33
  go_wp2
  go_ret
  exact ⟨rfl, rfl⟩
theorem both_full (xs : List Int) : fltTo xs (pBoth []) xs.length = xs := by
  unfold fltTo pBoth; rw [List.take_length]; simp
theorem bothn_full (xs : List Int) : fltN xs (pBoth []) xs.length = xs.length := by
  unfold fltN; rw [both_full]
theorem sameB_self (xs : List Int) : sameB xs xs = true := by simp [sameB]
/-- All that can be read goes on to be read, to the end of the heap. -/
theorem RdU.on {w w' : World} {n c : Nat} {A : Option Addr} {xs : List Int} (h : RdU w w.heap.size A n c xs) (hb : Below w.heap.size w w') : RdU w' w'.heap.size A n c xs := (h.below hb).more hb.size
theorem Blk.on {w w' : World} {g : Nat} {t : TypeId} {cs : Array Value} (h : Blk w g t cs) (hb : Below w.heap.size w w') : Blk w' g t cs := h.below hb h.lt
theorem below_new (w : World) (o : Obj) : Below w.heap.size w (w.alloc o) := (Below.refl w.heap.size w).alloc (Nat.le_refl _) o
/-- The same world, some draws on. -/
def Dr (w w' : World) : Prop := ∃ q, w' = w.drewN q
section
variable {w w' : World} {B n c g : Nat} {A : Option Addr} {xs : List Int} {es : List Edg} {xss : List (List Int)} {t : TypeId} {cs : Array Value}
theorem Dr.refl (w : World) : Dr w w := ⟨0, rfl⟩
theorem Dr.drewN (h : Dr w w') (q : Nat) : Dr w (w'.drewN q) := by obtain ⟨m, rfl⟩ := h; exact ⟨m + q, by rw [World.drewN_drewN]⟩
theorem Dr.drew (h : Dr w w') : Dr w w'.drew := h.drewN 1
theorem Dr.u (d : Dr w w') (h : RdU w B A n c xs) : RdU w' B A n c xs := by obtain ⟨m, rfl⟩ := d; exact h
theorem Dr.e (d : Dr w w') (h : RdE w B A n c es) : RdE w' B A n c es := by obtain ⟨m, rfl⟩ := d; exact h
theorem Dr.uu (d : Dr w w') (h : RdUU w B A n c xss) : RdUU w' B A n c xss := by obtain ⟨m, rfl⟩ := d; exact h
theorem Dr.blk (d : Dr w w') (h : Blk w g t cs) : Blk w' g t cs := by obtain ⟨m, rfl⟩ := d; exact h
theorem Dr.below (d : Dr w w') {a : World} (h : Below B a w) : Below B a w' := by obtain ⟨m, rfl⟩ := d; exact below_drewN h m
end
end Go.Proofs.Ytklmckbpbloonaa
