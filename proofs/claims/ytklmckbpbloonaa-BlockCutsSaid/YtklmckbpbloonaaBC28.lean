/- Parts of the proof: MakeD. -/
import Derived.Test.YtklmckbpbloonaaBC27
namespace Go.Proofs.Ytklmckbpbloonaa
open Go.RowKit

theorem apart_rows {w : World} {N : Nat} {r1 r2 : Option Nat} (h1 : ∀ g, r1 = some g → g < N) (h2 : ∀ g, r2 = some g → N ≤ g) : (r2 = none ∨ r2 ≠ r1) ∧ (r1 = none ∨ r1 ≠ r2) := by
  constructor
  · cases r2 with
    | none => exact .inl rfl
    | some g => right; intro e; have a := h2 g rfl; have b := h1 g e.symm; omega
  · cases r1 with
    | none => exact .inl rfl
    | some g => right; intro e; have a := h1 g rfl; have b := h2 g e.symm; omega
set_option maxRecDepth 100000 in
set_option maxHeartbeats 1000000 in
theorem make_any (B : Nat) (A A' : Option Addr) (n c n' c' : Nat) (vs : List Int) (es : List Edg) (w : World) (h : RdU w B A n c vs) (h' : RdE w B A' n' c' es) (hn : n ≤ 1000000) (hn' : n' ≤ 100000) (hd : (es.map Prod.fst).Nodup) (hB : B ≤ w.heap.size) :
    Calls Try.prog 39 #[.slice A n c, .slice A' n' c'] w fun e w' => ∃ r1 A1 c1 r2 A2 c2 es', e = .returned (.agg #[.slice A1 (cpL (sortL vs)).length c1, .slice A2 n' c2]) ∧
      OwnU w' r1 A1 (cpL (sortL vs)).length c1 (cpL (sortL vs)) ∧ OwnE w' r2 A2 n' c2 es' ∧ es'.Perm es ∧ Rise es' ∧ Below w.heap.size w w' ∧ (∀ g, r1 = some g → w.heap.size ≤ g) ∧ (∀ g, r2 = some g → w.heap.size ≤ g) := by
  have hl := h.len
  have hl' := h'.len
  have hb0 := (Below.refl w.heap.size w).alloc (Nat.le_refl _) (.cells #[.slice none 0 0, .slice none 0 0] 25)
  have HB0 := Lib.hid hb0
  have HG0 := Lib.hid (Blk.new w 25 #[.slice none 0 0, .slice none 0 0])
  have HR := Lib.hid (h.below (hb0.mono hB))
  have HR' := Lib.hid (h'.below (hb0.mono hB))
  have HD := Lib.hid hd
  clear hb0 hd
  go_enter Try.func39, Try.ntmps39
  go_wp2_with fail
  refine (cloneU B _ _ _ vs _ HR.out (by omega) (by simp; omega)).mono ?_
  rintro e w1 ⟨r1, A1, c1, rfl, k1, k2, k3⟩
  have hz1 := k2.size
  simp only [World.size_alloc] at hz1 k2 k3
  go_wp2_with fail
  refine (cloneE B _ _ _ es _ (HR'.out.below (k2.mono (by omega))) (by omega) (by omega)).mono ?_
  rintro e w2 ⟨r2, A2, c2, rfl, m1, m2, m3⟩
  have hz2 := m2.size
  have k1' := k1.below m2 (fun g hg => k1.lt g hg)
  have h1l := k1.lt
  obtain ⟨ha1, ha2⟩ := apart_rows (w := w) (N := w1.heap.size) h1l m3
  have hr1 : ∀ g, r1 = some g → w.heap.size + 1 ≤ g := k3
  have hr2 : ∀ g, r2 = some g → w.heap.size + 1 ≤ g := fun g e => Nat.le_trans hz1 (m3 g e)
  have hn1 : some w.heap.size ≠ r1 := fun e => absurd (hr1 _ e.symm) (by omega)
  have hn2 : some w.heap.size ≠ r2 := fun e => absurd (hr2 _ e.symm) (by omega)
  have hG1 := HG0.out.below k2 (by omega)
  have HG2 := Lib.hid (hG1.below m2 hG1.lt)
  clear hG1
  go_wp2_with fail
  refine (sortU _ r1 _ _ _ vs k1' (by omega)).mono ?_
  rintro e w3 ⟨rfl, q1, q2⟩
  have HQ1 := Lib.hid q1
  have HE3 := Lib.hid (m1.kept q2 ha1)
  go_wp2_with fail
  refine (sortE _ r2 _ _ _ es HE3.out hn' HD.out).mono ?_
  rintro e w4 ⟨rfl, es', s1, s2, s3, s4⟩
  have HU4 := Lib.hid (HQ1.out.kept s4 ha2)
  go_wp2_with fail
  refine (compactU _ r1 _ _ _ _ HU4.out).mono ?_
  rintro e w5 ⟨rfl, p1, p2⟩
  have HE5 := Lib.hid (s1.kept p2 ha1)
  go_wp2_with fail
  refine (compactE _ r2 _ _ _ es' HE5.out s3 (by omega)).mono ?_
  rintro e w6 ⟨rfl, B6⟩
  have hG5 := ((HG2.out.grown q2 hn1).grown s4 hn2).grown p2 hn1
  have hG6 := hG5.below B6 hG5.lt
  obtain ⟨hg0, hg1⟩ := hG6.c2
  have hf0 := hG6.frozen 0
  have hf1 := hG6.frozen 1
  have hgl := hG6.lt
  have HU6 := Lib.hid (p1.below B6 p1.lt)
  have HE6 := Lib.hid (HE5.out.below B6 HE5.out.lt)
  have hBB := (((HB0.out.trans (k2.mono (by omega))).trans (m2.mono (by omega))).grown q2 (by omega) (fun g e => by have := hr1 g e; omega)).grown s4 (by have := q2.size; omega) (fun g e => by have := hr2 g e; omega)
  have hBB2 := (hBB.grown p2 (by have := q2.size; have := s4.size; omega) (fun g e => by have := hr1 g e; omega)).trans (B6.mono (by have := q2.size; have := s4.size; have := p2.size; omega))
  have HBB := Lib.hid hBB2
  clear hBB hBB2 hG5 hG6 k1 k1' k2 k3 m1 m2 m3 q1 q2 s1 s4 p1 p2 B6
  go_wp2_with fail
  refine bodyPost_ret (v := .agg #[.slice A1 (cpL (sortL vs)).length c1, .slice A2 n' c2]) (by simp [results, Try.results39, go_sem, hg0, hg1]) rfl ?_
  refine ⟨r1, A1, c1, r2, A2, c2, es', rfl, ?_, ?_, s2, s3, ?_, fun g e => by have := hr1 g e; omega, fun g e => by have := hr2 g e; omega⟩
  · exact (HU6.out.setCell_far (p := ⟨w.heap.size, 0, none⟩) (fun g e => by have := hr1 g e; simp; omega) _).setCell_far (p := ⟨w.heap.size, 1, none⟩) (fun g e => by have := hr1 g e; simp; omega) _
  · exact (HE6.out.setCell_far (p := ⟨w.heap.size, 0, none⟩) (fun g e => by have := hr2 g e; simp; omega) _).setCell_far (p := ⟨w.heap.size, 1, none⟩) (fun g e => by have := hr2 g e; simp; omega) _
  · exact (HBB.out.setCell (p := ⟨w.heap.size, 0, none⟩) (Nat.le_refl _) _).setCell (p := ⟨w.heap.size, 1, none⟩) (Nat.le_refl _) _
end Go.Proofs.Ytklmckbpbloonaa
