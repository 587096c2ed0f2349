/- Walks: slices.Compact at []uint32 (by the shelf), what sorts and compacts no more than one edge. -/
import Derived.Test.YtklmckbpbloonaaSortU5
import Derived.Test.YtklmckbpbloonaaDart
import Derived.Shelf.SlicesE.Compact
import Derived.Ground.SlgnProg
namespace Go.Proofs.Ytklmckbpbloonaa
open Go.Sort Go.RowKit Go.Shelf

def cpU_ren : Go.Shelf.Ren := ⟨fun | 43 => 83 | n => n, fun | 22 => 22 | 23 => 31 | 3 => 3 | 4 => 4 | 0 => 0 | n => n, fun | n => n⟩
theorem cpU : Go.Proofs.SlLaysE.n43 Try.prog cpU_ren := {
  mixed := by kernel_rfl
  f43 := ⟨Try.f83.name, by decide, Try.func83.trans (congrArg some (by kernel_rfl))⟩
  t0 := Try.underlying0
  a0 := Try.isAgg0
  z0 := Try.sizeOf0
  v0 := Try.zeroValue0
  t3 := Try.underlying3
  a3 := Try.isAgg3
  z3 := Try.sizeOf3
  v3 := Try.zeroValue3
  t4 := Try.underlying4
  a4 := Try.isAgg4
  z4 := Try.sizeOf4
  v4 := Try.zeroValue4
  t22 := Try.underlying22
  a22 := Try.isAgg22
  z22 := Try.sizeOf22
  v22 := Try.zeroValue22
  a23 := Try.isAgg31
  z23 := Try.sizeOf31 }
theorem compact_short (A : Option Addr) (n c : Nat) (w : World) (hn : n < 2) : Calls Try.prog 83 #[.slice A n c] w fun e w' => e = .returned (.slice A n c) ∧ w' = w := by
  go_enter Try.func83, Try.ntmps83
  go_wp2
  go_ret
  exact ⟨rfl, rfl⟩
theorem sortStable1 (A : Option Addr) (n c : Nat) (fv : Value) (w : World) (hn : n < 2) : Calls Try.prog 140 #[.slice A n c, .int .i64 0, .int .i64 n, fv] w fun e w' => e = .returned (.tuple #[]) ∧ w' = w := by
  go_enter Try.func140, Try.ntmps140
  go_wp2
  refine wp_loop_rounds 1 ?_
  rw [rounds_succ]
  go_wp2
  go_end0
  exact ⟨rfl, rfl⟩
theorem stable1 (A : Option Addr) (n c : Nat) (fv : Value) (w : World) (hn : n < 2) : Calls Try.prog 109 #[.slice A n c, .int .i64 n, fv] w fun e w' => e = .returned (.tuple #[]) ∧ w' = w := by
  go_enter Try.func109, Try.ntmps109
  go_wp2
  refine wp_loop_rounds 1 ?_
  rw [rounds_succ]
  go_wp2_with (go_at_call 140; refine (sortStable1 A n c _ _ hn).mono ?_; rintro e w' ⟨rfl, rfl⟩)
  refine wp_loop_rounds 1 ?_
  rw [rounds_succ]
  go_wp2
  go_end0
  exact ⟨rfl, rfl⟩
theorem ss1 (A : Option Addr) (n c : Nat) (fv : Value) (w : World) (hn : n < 2) : Calls Try.prog 81 #[.slice A n c, fv] w fun e w' => e = .returned (.tuple #[]) ∧ w' = w := by
  go_enter Try.func81, Try.ntmps81
  go_wp2_with (go_at_call 109; refine (stable1 A n c _ _ hn).mono ?_; rintro e w' ⟨rfl, rfl⟩)
  go_end0
  exact ⟨rfl, rfl⟩
theorem cpf1 (A : Option Addr) (n c : Nat) (fv : Value) (w : World) (hn : n < 2) : Calls Try.prog 84 #[.slice A n c, fv] w fun e w' => e = .returned (.slice A n c) ∧ w' = w := by
  go_enter Try.func84, Try.ntmps84
  go_wp2
  go_ret
  exact ⟨rfl, rfl⟩

/-- What neighbours that are alike come to. -/
def cpL (xs : List Int) : List Int := Lib.compactUpTo xs.toArray xs.toArray.size
theorem cpL_len (xs : List Int) : (cpL xs).length ≤ xs.length := by
  unfold cpL Lib.compactUpTo
  rw [List.length_map]
  have := List.length_filter_le (Lib.keeps xs.toArray) (List.range xs.toArray.size)
  simpa using this
theorem cpL_mem {xs : List Int} {x : Int} (h : x ∈ cpL xs) : x ∈ xs := by
  unfold cpL Lib.compactUpTo at h
  obtain ⟨j, hj, rfl⟩ := List.mem_map.1 h
  have hj1 : j < xs.length := by simpa using (List.mem_filter.1 hj).1
  simp [hj1]
theorem cpL_short {xs : List Int} (h : xs.length < 2) : cpL xs = xs := by
  match xs, h with
  | [], _ => rfl
  | [x], _ => rfl
theorem zeroU32 (W : World) : (zeroValue 31).run Try.prog W = .ok (.int .u32 0) W := by kernel_rfl
theorem grown_ahead {w w' : World} {k : Nat} {r : Option Nat} (h : (Sort.ahead w k).grownBy w' r) : w.grownBy w' r := ⟨h.os, h.tape, h.output, h.size, h.block⟩
/-- A row of the call's own, written anew from its head. -/
theorem own_putRow {w : World} {g n c : Nat} {xs zs : List Int} (h : OwnU w (some g) (some ⟨g, 0, none⟩) n c xs) (hz : zs.length = n) (hu : u32s zs) (k : Nat) :
    OwnU (putRow (Value.int .u32) (Sort.ahead w k) g 0 zs.toArray) (some g) (some ⟨g, 0, none⟩) n c zs ∧ w.grownBy (putRow (Value.int .u32) (Sort.ahead w k) g 0 zs.toArray) (some g) := by
  obtain ⟨⟨⟨h1, h2, h3, h4, cur, h5, h6, h7⟩, hA⟩, hx⟩ := h
  have hblk : (putRow (Value.int .u32) (Sort.ahead w k) g 0 zs.toArray).heap[g]? = some (.cells (putCells (Value.int .u32) 0 zs.toArray cur) 31 (0, 0)) := by
    simp [putRow, mapBlock, Array.getElem?_modify, h5, onCells]
  refine ⟨⟨⟨⟨h1, h2, by rw [U_len]; omega, rfl, _, hblk, by simpa [putCells] using h6, ?_⟩, hA⟩, hu⟩, rfl, rfl, rfl, by simp, fun j hj hne => ?_⟩
  · apply List.ext_getElem?
    intro j
    by_cases hj : j < n
    · have hjl : j < zs.length := by omega
      rw [List.getElem?_take_of_lt (by omega), Array.getElem?_toList, U_at (List.getElem?_eq_getElem hjl)]
      have hjc : j < cur.size := by omega
      simp [putCells, hjc, hjl]
    · rw [List.getElem?_eq_none (by simp; omega), List.getElem?_eq_none (by rw [U_len]; omega)]
  · simp only [putRow, mapBlock, Array.getElem?_modify]
    have : ¬ g = j := fun e => hne (by rw [e])
    rw [if_neg this]; rfl
theorem own_holds {w : World} {g n c : Nat} {xs : List Int} (h : OwnU w (some g) (some ⟨g, 0, none⟩) n c xs) : Holds (Value.int .u32) w g 0 xs.toArray := by
  obtain ⟨⟨⟨h1, h2, h3, h4, cur, h5, h6, h7⟩, hA⟩, hx⟩ := h
  have hb : Blk w g 31 cur := h5
  rw [U_len] at h3
  intro j hj
  have hj' : j < xs.length := by simpa using hj
  refine ⟨?_, hb.frozen _⟩
  rw [hb.cell, Nat.zero_add]
  have : (U xs)[j]? = some (.int .u32 xs[j]) := U_at (List.getElem?_eq_getElem hj')
  rw [← h7, List.getElem?_take_of_lt (by omega), Array.getElem?_toList] at this
  rw [this]
  simp [hj']
/-- slices.Compact at a row of the call's own. -/
theorem compactU (w : World) (r : Option Nat) (A : Option Addr) (n c : Nat) (xs : List Int) (h : OwnU w r A n c xs) :
    Calls Try.prog 83 #[.slice A n c] w fun e w' => e = .returned (.slice A (cpL xs).length c) ∧ OwnU w' r A (cpL xs).length c (cpL xs) ∧ w.grownBy w' r := by
  have hl := h.len
  by_cases h2 : n < 2
  · refine (compact_short A n c w h2).mono ?_
    rintro e w' ⟨rfl, rfl⟩
    rw [cpL_short (by omega), hl]
    exact ⟨rfl, h, rfl, rfl, rfl, Nat.le_refl _, fun _ _ _ => rfl⟩
  · have hbd := h.rd.bd
    cases r with
    | none => have := h.1.1.cap0 rfl; omega
    | some g =>
      obtain rfl : A = some ⟨g, 0, none⟩ := h.1.1.2.2.2.1
      have hC := AnyE.slices_Compact cpU (Value.int .u32) (fun _ => rfl) (EqlAt.intD _ _ .u32) (NeqAt.intD _ _ .u32) 0 zeroU32 g 0 c xs.toArray w (own_holds h) (by simp; omega) (by simp; omega)
      rw [show xs.toArray.size = n by simpa using hl] at hC
      refine hC.mono ?_
      rintro e w' ⟨rfl, q, rfl⟩
      have e0 : Lib.compactUpTo xs.toArray n = cpL xs := by unfold cpL; rw [show xs.toArray.size = n by simpa using hl]
      rw [e0]
      have hle := cpL_len xs
      have hu : u32s (cpL xs ++ List.replicate (n - (cpL xs).length) 0) := by
        intro x hx
        rcases List.mem_append.1 hx with hx | hx
        · exact h.2 x (cpL_mem hx)
        · rw [(List.mem_replicate.1 hx).2]; omega
      obtain ⟨k1, k2⟩ := own_putRow (zs := cpL xs ++ List.replicate (n - (cpL xs).length) 0) h (by simp; omega) hu q
      refine ⟨rfl, ⟨⟨?_, fun e => by cases e⟩, fun x hx => h.2 x (cpL_mem hx)⟩, k2⟩
      have := k1.1.1.cutTo (m := (cpL xs).length) (by omega)
      rwa [show (U (cpL xs ++ List.replicate (n - (cpL xs).length) 0)).take ((cpL xs).length * 1) = U (cpL xs) by rw [U_append, Nat.mul_one, List.take_left' (U_len _)]] at this
end Go.Proofs.Ytklmckbpbloonaa
