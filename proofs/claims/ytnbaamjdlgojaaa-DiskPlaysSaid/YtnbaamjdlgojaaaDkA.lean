/- Walks: the example of layer 2; a disk that is none. -/
import Derived.Test.YtnbaamjdlgojaaaDkN
namespace Go.Proofs.Ytnbaamjdlgojaaa
open Go.RowKit

theorem crashTo_none (last : List Bl) (m : List (Int × Bl)) (ws : List Int) : ∀ k, crashTo last m ws [] k = last
  | 0 => rfl
  | k + 1 => by unfold crashTo; simp [crashTo_none last m ws k]
theorem crashed_none (s : DS) : crashed s [] = { s with fuse := -1, down := false, cache := [] } := by unfold crashed; rw [crashTo_none]
theorem RdB.none_ (w : World) (B : Nat) : RdB w B none 0 0 [] := ⟨Reads.none_, Nat.le_refl _, by omega⟩
def a1 : DS := ⟨1, -1, false, [(5, oneB 1)], List.replicate 64 zB⟩
def a2 : DS := ⟨1, -1, false, [], List.replicate 64 zB⟩
def a3 : DS := ⟨2, -1, false, [(5, oneB 2)], List.replicate 64 zB⟩
def a4 : DS := ⟨3, -1, false, [], (List.replicate 64 zB).set 5 (oneB 2)⟩
theorem st1 : wrote (freshS 64) 5 (oneB 1) = a1 := rfl
theorem st2 : crashed a1 [] = a2 := by rw [crashed_none]; rfl
theorem st3 : wrote a2 5 (oneB 2) = a3 := rfl
theorem st4 : barriered a3 = a4 := by
  unfold barriered
  rw [if_neg (by simp [a3]), if_neg (by simp [a3])]
  have h := laidK_step (last := List.replicate 64 zB) (m := [(5, oneB 2)]) (left := mkeys [(5, oneB 2)]) (k := 5) (v := oneB 2) (by simp [mkeys]) (by rw [List.length_replicate]; omega) rfl
  rw [laidK_start] at h
  have e : (mkeys [((5 : Int), oneB 2)]).erase ((5 : Nat) : Int) = [] := by simp [mkeys]
  rw [e] at h
  show DS.mk _ _ _ _ (laidK (List.replicate 64 zB) [(5, oneB 2)] []) = _
  rw [← h]; rfl
theorem st5 : crashed a4 [] = { a4 with cache := [] } := by rw [crashed_none]; rfl
theorem n1 : writeN (freshS 64) 5 = 0 := rfl
theorem n2 : mayN a1 5 = 0 := rfl
theorem n3 : mayN a2 5 = 0 := rfl
theorem n4 : writeN a2 5 = 0 := rfl
theorem n5 : barrierN a3 = 0 := rfl
theorem r1 : readB a1 5 = oneB 1 := rfl
theorem r2 : readB a2 5 = zB := by
  unfold readB; rw [if_pos n3]
  show (List.replicate 64 zB).getD 5 [] = zB
  rfl
theorem r5 : lastB { a4 with cache := [] } 5 = oneB 2 := by
  unfold lastB
  have hl : ((List.replicate 64 zB).set 5 (oneB 2)).length = 64 := by rw [List.length_set, List.length_replicate]
  rw [if_neg (by show ¬ ((5 : Int) < 0 ∨ (((List.replicate 64 zB).set 5 (oneB 2)).length : Int) ≤ 5); rw [hl]; omega)]
  show ((List.replicate 64 zB).set 5 (oneB 2)).getD 5 [] = _
  rfl
set_option maxRecDepth 100000 in
theorem oneB_c0 {w : World} {g : Nat} {x : Int} (h : BlAt w g (oneB x)) : w.cell? ⟨g, 0, none⟩ = some (.int .u8 x) := by rw [h.1.cell]; rfl
set_option maxRecDepth 100000 in
theorem zB_c0 {w : World} {g : Nat} (h : BlAt w g zB) : w.cell? ⟨g, 0, none⟩ = some (.int .u8 0) := by rw [h.1.cell]; rfl
set_option maxRecDepth 100000 in
theorem indexB1 (x : Int) (w : World) : (Instr.index 33 (.agg (ca (oneB x))) (.int .i64 0)).run Try.prog w = .ok (.int .u8 x) w := by kernel_rfl
set_option maxRecDepth 100000 in
set_option maxHeartbeats 4000000 in
theorem awake2 (w : World) : Calls Try.prog 6 #[] w fun e w' => e = .returned (.bool true) ∧ Below w.heap.size w w' := by
  have hz := zeroB
  have hb1 := buildB1
  go_enter Try.func6, Try.ntmps6
  go_wp2_with fail
  refine (new_any 64 _ (by omega) (by omega)).mono ?_
  rintro e w1 ⟨g, b, l, rfl, h1, hg, hb, hl, B1⟩
  obtain ⟨d1, d2, d3⟩ := h1.ne
  have G1 := h1.head.lt
  have G2 := h1.cache.lt
  have G3 := h1.last.1.lt
  have HB1 := Lib.hid B1
  clear B1
  go_wp2_with fail
  refine (write_any _ _ _ _ _ _ _ h1 (oneB_ok (by omega)) (by simp [freshS])).mono ?_
  rintro e w2 ⟨rfl, h2, C2⟩
  rw [n1]
  rw [st1] at h2
  have Z2 := Lib.hid (HB1.out.trans (C2.below HB1.out.size (by simp; omega)))
  clear h1 C2 HB1
  go_wp2_with fail
  refine (read_any _ _ _ _ _ _ h2).mono ?_
  rintro e w3 ⟨rfl, B3⟩
  rw [r1, n2]
  have h3 := h2.below B3
  have Z3 := Lib.hid (Z2.out.trans (B3.mono Z2.out.size))
  clear h2 B3 Z2
  have K3 := Lib.hid (BlAt.fresh w3)
  have h3' := h3.below ((Below.refl _ w3).alloc (Nat.le_refl _) (.cells (ca zB) 33))
  go_wp2_with (first
    | ((with_reducible refine wpList_storeB (o := ⟨none, .store _ (.tmp 4) _, _, _, _, _⟩) ?_ (.tmp 4) (.tmp 26) ?_ w3.heap.size zB (oneB 1) ?_ ?_ K3.out (oneB_ok (by omega)) ?_); rfl; rfl; rfl; rfl; intro w4 k4 c4 s4))
  have G3' := h3.head.lt
  have G4' := h3.cache.lt
  have G5' := h3.last.1.lt
  have h4 := h3'.keep c4 (by simp; omega) (by simp; omega) (by simp; omega)
  have Z4 := Lib.hid ((Z3.out.alloc Z3.out.size (.cells (ca zB) 33)).trans (c4.below (by have := Z3.out.size; simp; omega) (by have := Z3.out.size; simp; omega)))
  clear h3 h3' c4 Z3 K3
  refine (crash_any _ _ _ 0 _ _ _ _ [] _ h4 (by simp [a1]) (RdB.none_ _ _) (by omega) (by omega) (by omega) (by omega)).mono ?_
  rintro e w5 ⟨rfl, h5, C5⟩
  rw [st2] at h5
  have Z5 := Lib.hid (Z4.out.trans (C5.below Z4.out.size (by simp; omega)))
  have k5 : BlAt w5 w3.heap.size (oneB 1) := ⟨C5.blk k4.1 (by simp; omega), k4.2⟩
  have s5 : w3.heap.size < w5.heap.size := k5.1.lt
  clear h4 C5 Z4 k4 s4
  go_wp2_with fail
  refine (read_any _ _ _ _ _ _ h5).mono ?_
  rintro e w6 ⟨rfl, B6⟩
  rw [r2, n3]
  have h6 := h5.below B6
  have k6 : BlAt w6 w3.heap.size (oneB 1) := ⟨k5.1.below B6 k5.1.lt, k5.2⟩
  have Z6 := Lib.hid (Z5.out.trans (B6.mono Z5.out.size))
  have s6 : w3.heap.size < w6.heap.size := k6.1.lt
  clear h5 B6 Z5 k5
  have K6 := Lib.hid (BlAt.fresh w6)
  have h6' := h6.below ((Below.refl _ w6).alloc (Nat.le_refl _) (.cells (ca zB) 33))
  have k6' : BlAt (w6.alloc (.cells (ca zB) 33)) w3.heap.size (oneB 1) := ⟨k6.1.alloc _, k6.2⟩
  have H6 := Lib.hid h6'
  have K6' := Lib.hid k6'
  clear h6' k6 k6'
  go_wp2_with (first
    | ((with_reducible refine wpList_storeB (o := ⟨none, .store _ (.tmp 6) _, _, _, _, _⟩) ?_ (.tmp 6) (.tmp 33) ?_ w6.heap.size zB zB ?_ ?_ K6.out zB_ok ?_); rfl; rfl; rfl; rfl; intro w7 k7 c7 s7))
  have G6 := h6.head.lt
  have G7 := h6.cache.lt
  have G8 := h6.last.1.lt
  have h7 := H6.out.keep c7 (by simp; omega) (by simp; omega) (by simp; omega)
  have Z7 := Lib.hid ((Z6.out.alloc Z6.out.size (.cells (ca zB) 33)).trans (c7.below (by have := Z6.out.size; simp; omega) (by have := Z6.out.size; simp; omega)))
  have j7 : BlAt w7 w3.heap.size (oneB 1) := ⟨c7.blk K6'.out.1 (by simp; omega), K6'.out.2⟩
  clear h6 c7 s7 Z6 K6 K6' H6
  refine (write_any _ _ _ _ _ _ _ h7 (oneB_ok (by omega)) (by simp [a2])).mono ?_
  rintro e w8 ⟨rfl, h8, C8⟩
  rw [n4]
  rw [st3] at h8
  have Z8 := Lib.hid (Z7.out.trans (C8.below Z7.out.size (by simp; omega)))
  have j8 : BlAt w8 w3.heap.size (oneB 1) := ⟨C8.blk j7.1 (by simp; omega), j7.2⟩
  have k8 : BlAt w8 w6.heap.size zB := ⟨C8.blk k7.1 (by simp; omega), k7.2⟩
  have s8 := j8.1.lt
  have t8 := k8.1.lt
  clear h7 C8 Z7 j7 k7
  go_wp2_with fail
  refine (barrier_any _ _ _ _ _ h8 (by simp [a3])).mono ?_
  rintro e w9 ⟨rfl, h9, C9⟩
  rw [n5]
  rw [st4] at h9
  have Z9 := Lib.hid (Z8.out.trans (C9.below Z8.out.size (by simp; omega)))
  have j9 : BlAt w9 w3.heap.size (oneB 1) := ⟨C9.blk j8.1 (by simp; omega), j8.2⟩
  have k9 : BlAt w9 w6.heap.size zB := ⟨C9.blk k8.1 (by simp; omega), k8.2⟩
  have s9 := j9.1.lt
  have t9 := k9.1.lt
  clear h8 C9 Z8 j8 k8
  go_wp2_with fail
  refine (crash_any _ _ _ 0 _ _ _ _ [] _ h9 (by simp [a4]) (RdB.none_ _ _) (by omega) (by omega) (by omega) (by omega)).mono ?_
  rintro e w10 ⟨rfl, h10, C10⟩
  rw [st5] at h10
  have Z10 := Lib.hid (Z9.out.trans (C10.below Z9.out.size (by simp; omega)))
  have j10 : BlAt w10 w3.heap.size (oneB 1) := ⟨C10.blk j9.1 (by simp; omega), j9.2⟩
  have k10 : BlAt w10 w6.heap.size zB := ⟨C10.blk k9.1 (by simp; omega), k9.2⟩
  have s10 := j10.1.lt
  have t10 := k10.1.lt
  have x1 := oneB_c0 j10
  have x2 := zB_c0 k10
  clear h9 C10 Z9 j9 k9 j10 k10
  have hix := indexB1
  go_wp2_with fail
  refine (lasts_any _ _ _ _ _ _ h10).mono ?_
  rintro e w11 ⟨rfl, B11⟩
  rw [r5]
  go_wp2
  go_ret
  exact ⟨rfl, Z10.out.trans (B11.mono Z10.out.size)⟩
end Go.Proofs.Ytnbaamjdlgojaaa
