/- Parts of the proof: Awake. -/
import Derived.Test.YtklmckbpbloonaaBC26
import Derived.Test.YtklmckbpbloonaaBC1
namespace Go.Proofs.Ytklmckbpbloonaa
open Go.RowKit

theorem RdU.blk {w : World} {g : Nat} {xs : List Int} (h : Blk w g 31 (U xs).toArray) (hu : u32s xs) (hn : xs.length ≤ 1000000) : RdU w w.heap.size (some ⟨g, 0, none⟩) xs.length xs.length xs :=
  ⟨⟨by rw [U_len]; omega, fun _ => ⟨_, rfl, h.lt, fun j u hj => by rw [Addr.add_lit, Nat.zero_add, h.cell, ← hj]; simp⟩⟩, Nat.le_refl _, by omega, (fun e => by cases e), hu⟩
theorem RdE.blk {w : World} {g : Nat} {es : List Edg} (h : Blk w g 39 (Ed es).toArray) (hu : edgs es) (hn : es.length ≤ 1000000) : RdE w w.heap.size (some ⟨g, 0, none⟩) es.length es.length es :=
  ⟨⟨by rw [Ed_len], fun _ => ⟨_, rfl, h.lt, fun j u hj => by rw [Addr.add_lit, Nat.zero_add, h.cell, ← hj]; simp⟩⟩, Nat.le_refl _, by omega, (fun e => by cases e), hu⟩
theorem u32s_257 : u32s [2, 5, 7] := by intro x hx; simp at hx; omega
theorem u32s_9 : u32s [9] := by intro x hx; simp at hx; omega
theorem u32s_2597 : u32s [2, 5, 9, 7] := by intro x hx; simp at hx; omega
theorem insL_ex : insL [2, 5, 7] 5 [9] = [2, 5, 9, 7] := by decide
theorem below_drew_to {B : Nat} {a w : World} (h : Below B a w) (q : Nat) : Below B a (w.drewN q) := below_drewN h q

theorem awake8 (w : World) : Calls Try.prog 99 #[] w fun e w' => e = .returned (.bool true) ∧ Below w.heap.size w w' := by
  have hb := ((Below.refl w.heap.size w).alloc (Nat.le_refl _) (.cells (U [2, 5, 7]).toArray 31)).alloc (by simp) (.cells (U [9]).toArray 31)
  have h1 := (RdU.blk ((Blk.new w 31 (U [2, 5, 7]).toArray).alloc (.cells (U [9]).toArray 31)) u32s_257 (by decide))
  have h2 := (RdU.blk (Blk.new (w.alloc (.cells (U [2, 5, 7]).toArray 31)) 31 (U [9]).toArray) u32s_9 (by decide))
  have hf0 : dOf 3 0 = 6 := by decide
  have hf1 : twinD 6 = 7 := by decide
  simp only [World.size_alloc] at h1 h2
  have HB := Lib.hid hb
  have H1 := Lib.hid h1
  have H2 := Lib.hid h2
  clear hb h1 h2
  go_enter Try.func99, Try.ntmps99
  go_wp2_with (first
    | (go_at_call 118; refine (insert_any (w.heap.size + 2) _ _ _ _ _ _ [2, 5, 7] [9] 5 _ H1.out H2.out (by decide) (by simp)).mono ?_; rintro e w1 ⟨r1, A1, n1, c1, rfl, k1, k2, k3⟩; rw [insL_ex] at k1; have hs1 := k2.size; simp only [World.size_alloc] at hs1; have hd := k1.len; obtain rfl : n1 = 4 := hd.symm)
    | (go_at_call 22; refine (rsame_any _ _ _ _ _ _ _ [2, 5, 9, 7] [2, 5, 9, 7] _ ((k1.alloc _).rd) (RdU.blk (Blk.new w1 31 (U [2, 5, 9, 7]).toArray) u32s_2597 (by decide))).mono ?_; rintro e w2 ⟨rfl, q, rfl⟩)
    | (go_at_call 62; refine (dartOf0 3 _).mono ?_; rintro e w3 ⟨rfl, rfl⟩; rw [hf0])
    | (go_at_call 119; refine (twin_any 6 _ (by decide)).mono ?_; rintro e w4 ⟨rfl, rfl⟩; rw [hf1]))
  go_ret
  refine ⟨by simp, ?_⟩
  exact below_drewN (((HB.out.trans (k2.mono (by simp; omega)))).alloc (by omega) _) _

theorem awake8up (w : World) : Calls Try.prog 55 #[] w fun e w' => e = .returned (.bool true) ∧ Below w.heap.size w w' := by
  go_enter Try.func55, Try.ntmps55
  go_wp2_with (go_at_call 99; refine (awake8 _).mono ?_; rintro e w1 ⟨rfl, h1⟩)
  go_ret
  exact ⟨rfl, h1⟩

theorem u32s_123 : u32s [1, 2, 3] := by intro x hx; simp at hx; omega
theorem edgs_ex : edgs [(1, 1, 2)] := by intro e he; simp at he; subst he; decide
theorem sort_ex : cpL (sortL [1, 2, 3]) = [1, 2, 3] := by
  have : sortL [1, 2, 3] = [1, 2, 3] := List.mergeSort_of_pairwise (by decide)
  rw [this]; decide
theorem gcheck_ex : gcheck [1, 2, 3] [(1, 1, 2)] = 0 := by decide
theorem parts_ex : (partsTo [1, 2, 3] [(1, 1, 2)] 3).length = 2 := by decide
theorem alone_ex : aloneTo [1, 2, 3] [(1, 1, 2)] 3 = 1 := by decide
theorem ends_ex : ∀ e ∈ ([(1, 1, 2)] : List Edg), e.2.1 ∈ ([1, 2, 3] : List Int) ∧ e.2.2 ∈ ([1, 2, 3] : List Int) := by decide
theorem rise_ex : ([1, 2, 3] : List Int).Pairwise (· < ·) := by decide
set_option maxRecDepth 100000 in
theorem awake9 (w : World) : Calls Try.prog 13 #[] w fun e w' => e = .returned (.bool true) ∧ Below w.heap.size w w' := by
  have hb := ((Below.refl w.heap.size w).alloc (Nat.le_refl _) (.cells (U [1, 2, 3]).toArray 31)).alloc (by simp) (.cells (Ed [(1, 1, 2)]).toArray 39)
  have h1 := (RdU.blk ((Blk.new w 31 (U [1, 2, 3]).toArray).alloc (.cells (Ed [(1, 1, 2)]).toArray 39)) u32s_123 (by decide))
  have h2 := (RdE.blk (Blk.new (w.alloc (.cells (U [1, 2, 3]).toArray 31)) 39 (Ed [(1, 1, 2)]).toArray) edgs_ex (by decide))
  simp only [World.size_alloc] at h1 h2
  have HB := Lib.hid hb
  have H1 := Lib.hid h1
  have H2 := Lib.hid h2
  clear hb h1 h2
  go_enter Try.func13, Try.ntmps13
  go_wp2_with (first
    | (go_at_call 39; refine (make1 (w.heap.size + 2) _ _ _ _ _ _ [1, 2, 3] [(1, 1, 2)] _ H1.out H2.out (by decide) (by decide) (by simp)).mono ?_; rintro e w1 ⟨r1, A1, c1, r2, A2, c2, rfl, k1, k2, k3, k4, k5⟩; rw [sort_ex] at k1 ⊢; have hs1 := k3.size; simp only [World.size_alloc] at hs1; simp only [List.length_cons, List.length_nil, Nat.zero_add, Nat.reduceAdd] at k1 ⊢; have hX := Blk.new w1 25 #[.slice A1 3 c1, .slice A2 1 c2]; have hR1 := (k1.alloc (.cells #[.slice A1 3 c1, .slice A2 1 c2] 25)).rd; have hR2 := (k2.alloc (.cells #[.slice A1 3 c1, .slice A2 1 c2] 25)).rd; have hg := hX.c2; have hl1 := hX.lt)
    | (go_at_call 14; refine (check_any _ _ _ _ _ _ _ [1, 2, 3] [(1, 1, 2)] _ hR1 hR2 (Nat.le_refl _)).mono ?_; rintro e w2 ⟨rfl, q1⟩; rw [gcheck_ex]; have hX2 := hX.below q1 hl1; have hg2 := hX2.c2; have hR12 := hR1.below q1; have hR22 := hR2.below q1; have hl2 := hX2.lt; have hz2 := q1.size)
    | (go_at_call 17; refine (parts_any _ _ _ _ _ _ _ [1, 2, 3] [(1, 1, 2)] _ hR12 hR22 (by decide) hz2 rise_ex ends_ex).mono ?_; rintro e w3 ⟨r3, A3, c3, rfl, _, q2⟩; rw [parts_ex]; have hX3 := hX2.below q2 hl2; have hg3 := hX3.c2; have hR13 := hR12.below (q2.mono hz2); have hR23 := hR22.below (q2.mono hz2); have hz3 := Nat.le_trans hz2 q2.size)
    | (go_at_call 24; refine (alone_any _ _ _ _ _ _ _ [1, 2, 3] [(1, 1, 2)] _ hR13 hR23 (by decide) hz3).mono ?_; rintro e w4 ⟨rfl, q3⟩; rw [alone_ex])
    | (go_at_call 55; refine (awake8up _).mono ?_; rintro e w5 ⟨rfl, q4⟩))
  go_ret
  refine ⟨by simp, ?_⟩
  have z1 := q1.size
  have z2 := q2.size
  have z3 := q3.size
  simp only [World.size_alloc] at z1 z2 z3
  have e1 := (HB.out.trans (k3.mono (by simp; omega))).alloc (by omega) (.cells #[.slice A1 3 c1, .slice A2 1 c2] 25)
  exact (((e1.trans (q1.mono (by simp; omega))).trans (q2.mono (by omega))).trans (q3.mono (by omega))).trans (q4.mono (by omega))

theorem awake9up (w : World) : Calls Try.prog 64 #[] w fun e w' => e = .returned (.bool true) ∧ Below w.heap.size w w' := by
  go_enter Try.func64, Try.ntmps64
  go_wp2_with (go_at_call 13; refine (awake9 _).mono ?_; rintro e w1 ⟨rfl, h1⟩)
  go_ret
  exact ⟨rfl, h1⟩
end Go.Proofs.Ytklmckbpbloonaa
