/- slices.Sort at []uint32, part 5: its assembly; its contract on a row of the call's own. -/
import Derived.Test.YtklmckbpbloonaaSortU4
namespace Go.Proofs.Ytklmckbpbloonaa
open Go.Sort Go.RowKit

theorem SU.callees13 : SU.Callees13 where
  ins := SU.insertionSort_int
  brk := SU.breakPatterns_int
  piv := SU.choosePivot_int
  par := SU.partialInsertionSort_int
  peq := SU.partitionEqualOrdered_int
  prt := SU.partitionOrdered_int
theorem SU.plain13 : Plain13 where
  swo := swo_ltInt
  ins := insertionSort_holds
  par := partialInsertionSort_holds
  prt := partition_holds _
  peq := partitionEqual_holds _
  pdq := pdq_sorts _
theorem SU.pdqWalkInt : SU.pdqWalk_int := fun blk off cap a b limit d w hH hb hab hbd hsz hl hB =>
  SU.pdqsort_int SU.callees13 SU.plain13 (b - a + 1) blk off cap a b limit d w (by omega) hH hb hab hbd hsz hl hB
def sortL (xs : List Int) : List Int := xs.mergeSort fun x y => decide (x ≤ y)
theorem SU.sort_eq (zs : List Int) : Sort.sort ltInt zs.toArray = (sortL zs).toArray := by
  unfold sortL
  rw [← sortInt zs]
theorem sortL_len (xs : List Int) : (sortL xs).length = xs.length := List.length_mergeSort _
theorem mem_sortL {xs : List Int} {x : Int} : x ∈ sortL xs ↔ x ∈ xs := List.mem_mergeSort
theorem sortL_sorted (xs : List Int) : (sortL xs).Pairwise (· ≤ ·) := by
  have := List.pairwise_mergeSort (le := fun x y : Int => decide (x ≤ y)) (fun a b c h1 h2 => by simp at *; omega) (fun a b => by simp; omega) xs
  exact this.imp fun h => by simpa using h

/-- slices.Sort at a row of the call's own. -/
theorem sortU (w : World) (r : Option Nat) (A : Option Addr) (n c : Nat) (xs : List Int) (h : OwnU w r A n c xs) (hn : n < 4611686018427387904) :
    Calls Try.prog 80 #[.slice A n c] w fun e w' => e = .returned (.tuple #[]) ∧ OwnU w' r A n c (sortL xs) ∧ w.grownBy w' r := by
  have hl := h.len
  rcases Nat.eq_zero_or_pos n with h0 | h0
  · subst h0
    have : xs = [] := List.eq_nil_of_length_eq_zero hl
    subst this
    refine (SU.Sort_int_nil A c w).mono ?_
    rintro e w' ⟨rfl, rfl⟩
    exact ⟨rfl, by simpa [sortL] using h, rfl, rfl, rfl, Nat.le_refl _, fun _ _ _ => rfl⟩
  · obtain ⟨⟨hO, hA⟩, hx⟩ := h
    have hlt := hO.lt
    obtain ⟨h1, h2, h3, h4⟩ := hO
    cases r with
    | none => simp only at h4; omega
    | some g =>
      obtain ⟨rfl, cur, h5, h6, h7⟩ := h4
      have hb : Blk w g 31 cur := h5
      have hH : Holds (Value.int .u32) w g 0 xs.toArray := fun j hj => by
        have hj' : j < xs.length := by simpa using hj
        refine ⟨?_, hb.frozen _⟩
        rw [hb.cell, Nat.zero_add]
        have : (U xs)[j]? = some (.int .u32 xs[j]) := U_at (List.getElem?_eq_getElem hj')
        rw [← h7, List.getElem?_take_of_lt (by omega)] at this
        rw [Array.getElem?_toList] at this
        rw [this]
        simp [hj']
      have hS := SU.Sort_int SU.pdqWalkInt g 0 c xs.toArray w hH hb.lt (by simpa [hl] using hn)
      rw [SU.sort_eq, show xs.toArray.size = n by simpa using hl] at hS
      refine hS.mono ?_
      rintro e w' ⟨rfl, k, os, rfl⟩
      have hgl := hb.lt
      have hblk : (grow (putRow (Value.int .u32) (Sort.ahead w k) g 0 (sortL xs).toArray) os).heap[g]? = some (.cells (putCells (Value.int .u32) 0 (sortL xs).toArray cur) 31 (0, 0)) := by
        rw [heap_grow_old _ _ (by simpa using hgl)]
        simp [putRow, mapBlock, Array.getElem?_modify, h5, onCells]
      refine ⟨rfl, ⟨⟨⟨h1, h2, by rw [U_len, sortL_len]; omega, rfl, _, hblk, by simpa [putCells] using h6, ?_⟩, hA⟩, fun x hx' => hx x (mem_sortL.1 hx')⟩, rfl, rfl, rfl, by simp, fun j hj hne => ?_⟩
      · apply List.ext_getElem?
        intro j
        by_cases hj : j < n
        · have hjl : j < (sortL xs).length := by rw [sortL_len]; omega
          rw [List.getElem?_take_of_lt (by omega), Array.getElem?_toList, U_at (List.getElem?_eq_getElem hjl)]
          have hjc : j < cur.size := by omega
          simp [putCells, hjc, hjl]
        · rw [List.getElem?_eq_none (by simp; omega), List.getElem?_eq_none (by rw [U_len, sortL_len]; omega)]
      · rw [heap_grow_old _ _ (by simpa using hj)]
        simp only [putRow, mapBlock, Array.getElem?_modify]
        have : ¬ g = j := fun e => hne (by rw [e])
        rw [if_neg this]; rfl
end Go.Proofs.Ytklmckbpbloonaa
