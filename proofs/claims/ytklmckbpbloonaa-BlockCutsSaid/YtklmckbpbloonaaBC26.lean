/- Parts of the proof: MakeB. -/
import Derived.Test.YtklmckbpbloonaaBC9
import Derived.Test.YtklmckbpbloonaaBC22
import Derived.Test.YtklmckbpbloonaaBC25
namespace Go.Proofs.Ytklmckbpbloonaa
open Go.RowKit

theorem OwnU.below_ {w w' : World} {B : Nat} {r : Option Nat} {A : Option Addr} {n c : Nat} {xs : List Int} (h : OwnU w r A n c xs) (hg : w.grownBy w' (some B)) (hne : ∀ g, r = some g → g ≠ B) : OwnU w' r A n c xs :=
  h.kept hg (by cases r with
    | none => exact .inl rfl
    | some g => right; intro e; cases e; exact hne _ rfl rfl)
set_option maxRecDepth 100000 in
set_option maxHeartbeats 1000000 in
theorem make1 (B : Nat) (A A' : Option Addr) (n c n' c' : Nat) (vs : List Int) (es : List Edg) (w : World) (h : RdU w B A n c vs) (h' : RdE w B A' n' c' es) (hn : n ≤ 1000000) (hn' : n' < 2) (hB : B ≤ w.heap.size) :
    Calls Try.prog 39 #[.slice A n c, .slice A' n' c'] w fun e w' => ∃ r1 A1 c1 r2 A2 c2, e = .returned (.agg #[.slice A1 (cpL (sortL vs)).length c1, .slice A2 n' c2]) ∧
      OwnU w' r1 A1 (cpL (sortL vs)).length c1 (cpL (sortL vs)) ∧ OwnE w' r2 A2 n' c2 es ∧ Below w.heap.size w w' ∧ (∀ g, r1 = some g → w.heap.size ≤ g) ∧ (∀ g, r2 = some g → w.heap.size ≤ g) := by
  have hl := h.len
  have hl' := h'.len
  have hb0 := (Below.refl w.heap.size w).alloc (Nat.le_refl _) (.cells #[.slice none 0 0, .slice none 0 0] 25)
  have HB0 := Lib.hid hb0
  have HG0 := Lib.hid (Blk.new w 25 #[.slice none 0 0, .slice none 0 0])
  have HR := Lib.hid (h.below (hb0.mono hB))
  have HR' := Lib.hid (h'.below (hb0.mono hB))
  clear hb0
  go_enter Try.func39, Try.ntmps39
  go_wp2_with (first
    | (go_at_call 63; refine (cloneU B _ _ _ vs _ HR.out (by omega) (by simp; omega)).mono ?_; rintro e w1 ⟨r1, A1, c1, rfl, k1, k2, k3⟩; have hz1 := k2.size; simp only [World.size_alloc] at hz1 k2 k3)
    | (go_at_call 79; refine (cloneE B _ _ _ es _ (HR'.out.below (k2.mono (by omega))) (by omega) (by omega)).mono ?_; rintro e w2 ⟨r2, A2, c2, rfl, m1, m2, m3⟩; have hz2 := m2.size; have k1' := k1.below m2 (fun g hg => k1.lt g hg))
    | (go_at_call 80; refine (sortU _ r1 _ _ _ vs k1' (by omega)).mono ?_; rintro e w3 ⟨rfl, q1, q2⟩)
    | (go_at_call 81; refine (ss1 _ _ _ _ _ hn').mono ?_; rintro e w4 ⟨rfl, rfl⟩)
    | (go_at_call 83; refine (compactU _ r1 _ _ _ _ q1).mono ?_; rintro e w5 ⟨rfl, p1, p2⟩; have hG1 := HG0.out.below k2 (by omega); have hG2 := hG1.below m2 hG1.lt; have hn1 : some w.heap.size ≠ r1 := (fun e => absurd (k3 _ e.symm) (by omega)); have hG5 := (hG2.grown q2 hn1).grown p2 hn1; obtain ⟨hg0, hg1⟩ := hG5.c2; have hf0 := hG5.frozen 0; have hf1 := hG5.frozen 1; have hgl := hG5.lt)
    | (go_at_call 84; refine (cpf1 _ _ _ _ _ hn').mono ?_; rintro e w6 ⟨rfl, rfl⟩))
  refine bodyPost_ret (v := .agg #[.slice A1 (cpL (sortL vs)).length c1, .slice A2 n' c2]) (by simp [results, Try.results39, go_sem, hg0, hg1]) rfl ?_
  have h1l := k1.lt
  have hr1 : ∀ g, r1 = some g → w.heap.size + 1 ≤ g := k3
  have hr2 : ∀ g, r2 = some g → w.heap.size + 1 ≤ g := fun g e => Nat.le_trans hz1 (m3 g e)
  have hne : r2 = none ∨ r2 ≠ r1 := by
    cases r2 with
    | none => exact .inl rfl
    | some g => right; intro e; have a := m3 g rfl; have b := h1l g e.symm; omega
  have hE := (m1.kept q2 hne).kept p2 hne
  have hBB := (((HB0.out.trans (k2.mono (by omega))).trans (m2.mono (by omega))).grown q2 (by omega) (fun g e => by have := hr1 g e; omega)).grown p2 (by have := q2.size; omega) (fun g e => by have := hr1 g e; omega)
  refine ⟨r1, A1, c1, r2, A2, c2, rfl, ?_, ?_, ?_, fun g e => by have := hr1 g e; omega, fun g e => by have := hr2 g e; omega⟩
  · exact (p1.setCell_far (p := ⟨w.heap.size, 0, none⟩) (fun g e => by have := hr1 g e; simp; omega) _).setCell_far (p := ⟨w.heap.size, 1, none⟩) (fun g e => by have := hr1 g e; simp; omega) _
  · exact (hE.setCell_far (p := ⟨w.heap.size, 0, none⟩) (fun g e => by have := hr2 g e; simp; omega) _).setCell_far (p := ⟨w.heap.size, 1, none⟩) (fun g e => by have := hr2 g e; simp; omega) _
  · exact (hBB.setCell (p := ⟨w.heap.size, 0, none⟩) (Nat.le_refl _) _).setCell (p := ⟨w.heap.size, 1, none⟩) (Nat.le_refl _) _
end Go.Proofs.Ytklmckbpbloonaa
