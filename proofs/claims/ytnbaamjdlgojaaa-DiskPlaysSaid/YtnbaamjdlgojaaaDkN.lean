/- Walks: a new disk. -/
import Derived.Test.YtnbaamjdlgojaaaDkC
namespace Go.Proofs.Ytnbaamjdlgojaaa
open Go.RowKit

theorem bc_zB : bc zB = List.replicate 512 (Value.int .u8 0) := by unfold bc zB; rw [List.map_replicate]
theorem flat_zero (n : Nat) : flat (List.replicate n zB) = List.replicate (n * 512) (Value.int .u8 0) := by
  rw [List.eq_replicate_iff]
  refine ⟨by rw [flat_len (fun b hb => by rw [List.eq_of_mem_replicate hb]; exact zB_ok), List.length_replicate], fun v hv => ?_⟩
  obtain ⟨b, hb, hv⟩ := List.mem_flatMap.1 hv
  rw [List.eq_of_mem_replicate hb, bc_zB] at hv
  exact List.eq_of_mem_replicate hv
theorem made_zero (n : Nat) : (madeCells (ca zB) (n * 512)).toList = flat (List.replicate n zB) := by
  rw [flat_zero, List.eq_replicate_iff]
  refine ⟨by rw [Array.length_toList, size_madeCells], fun v hv => ?_⟩
  unfold madeCells at hv
  rw [Array.toList_map] at hv
  obtain ⟨i, _, rfl⟩ := List.mem_map.1 hv
  have hs : (ca zB).size = 512 := by rw [ca_size]; exact zB_ok.1
  have hi : i % (ca zB).size < (ca zB).size := Nat.mod_lt _ (by rw [hs]; omega)
  rw [getElem!_pos (ca zB) _ hi]
  have : (ca zB)[i % (ca zB).size] ∈ (ca zB).toList := by rw [Array.mem_toList_iff]; exact Array.getElem_mem hi
  rw [ca_toList, bc_zB] at this
  exact List.eq_of_mem_replicate this
set_option maxRecDepth 100000 in
theorem infoBz : (Try.prog.info? 33).map (fun i => (i.zero, i.size, i.bytes)) = some (some (.agg (ca zB)), 512, 512) := by kernel_rfl
/-- A row of zero blocks out of what 'make' gives. -/
theorem LastAt.of_own {w : World} {base n : Nat} {l : Nat} (hn : 0 < n) (h : w.ownsRow base 33 512 (.slice (some ⟨l, 0, none⟩) n n) n (madeCells (ca zB) (n * 512)).toList) : LastAt w l (List.replicate n zB) ∧ base ≤ l := by
  rcases h.2 with ⟨e, _⟩ | ⟨g', cap, cur, e, h1, h2, h3, h4, h5, h6⟩
  · cases e
  · injection e with e1 e2 e3
    injection e1 with e1
    injection e1 with e1
    subst e1; subst e3
    refine ⟨⟨?_, fun b hb => by rw [List.eq_of_mem_replicate hb]; exact zB_ok⟩, h1⟩
    rw [made_zero] at h6
    have : cur = (flat (List.replicate n zB)).toArray := by
      apply Array.toList_inj.1
      rw [← h6, List.take_of_length_le (by rw [Array.length_toList, h5]; exact Nat.le_refl _)]
    rw [← this]; exact h2
def freshS (n : Nat) : DS := ⟨0, -1, false, [], List.replicate n zB⟩
theorem freshS_ok {n : Nat} (h1 : 64 ≤ n) (h2 : n ≤ 4096) : DsOk (freshS n) := by
  refine ⟨by simp [freshS]; exact h1, by simp [freshS]; exact h2, (fun k hk => by simp [freshS, mkeys] at hk), by simp [freshS, mkeys], (fun k b hb => by simp [freshS, mget] at hb), fun b hb => ?_, by simp [freshS]⟩
  rw [List.eq_of_mem_replicate (show b ∈ List.replicate n zB from hb)]; exact zB_ok
set_option maxRecDepth 100000 in
theorem new_bad (n : Int) (w : World) (h : n < 64 ∨ 4096 < n) : Calls Try.prog 7 #[.int .i64 n] w fun e w' => e = .returned (.tuple #[.pointer none, .int .i64 2]) ∧ w = w' := by
  rcases h with h | h
  · go_enter Try.func7, Try.ntmps7
    go_wp2
    go_ret2
    exact ⟨rfl, rfl⟩
  · have h' : decide (n < 64) = false := by simp; omega
    go_enter Try.func7, Try.ntmps7
    go_wp2
    go_ret2
    exact ⟨rfl, rfl⟩
set_option maxRecDepth 100000 in
theorem new_any (n : Nat) (w : World) (h1 : 64 ≤ n) (h2 : n ≤ 4096) : Calls Try.prog 7 #[.int .i64 n] w fun e w' => ∃ g b l, e = .returned (.tuple #[.pointer (some ⟨g, 0, none⟩), .int .i64 0]) ∧ DkAt w' g b l (freshS n) ∧ w.heap.size ≤ g ∧ w.heap.size ≤ b ∧ w.heap.size ≤ l ∧ Below w.heap.size w w' := by
  have h1' : decide ((n : Int) < 64) = false := by simp; omega
  have h2' : decide ((4096 : Int) < n) = false := by simp; omega
  obtain ⟨i0, hi, hz0, hz1, hz2⟩ := info_parts infoBz
  have hmm := @run_makeMap Try.prog
  go_enter Try.func7, Try.ntmps7
  go_wp2_with (first
    | (at_make; refine wpList_make_full _ rfl _ _ 49 rfl w.heap.size 33 i0 _ 512 Try.underlying49 hi hz0 hz1 .i64 .i64 _ _ n rfl rfl rfl rfl (by rw [hz2]; omega) (by unfold maxLen; omega) (by simp) ?_; intro w1 k1 k2))
  go_ret2
  have hL := LastAt.of_own (by omega) k1
  rw [World.size_alloc] at hL
  have hM : MapOf w1 w.heap.size .i64 encB ([] : List (Int × Bl)) := (MapOf.made w .i64 encB).grown k2 (by simp)
  have hs := k2.size
  have hB : Below w.heap.size w w1 := ((Below.refl w.heap.size w).alloc (Nat.le_refl _) (.map #[] 0)).grown k2 (by simp) (fun _ e => by cases e)
  simp only [World.size_alloc] at hs
  refine ⟨w1.heap.size, w.heap.size, w.heap.size + 1, rfl, ⟨?_, hM.alloc _, hL.1.keep (Below.heap_alloc _ _ _ hL.1.1.lt), freshS_ok h1 h2⟩, by omega, Nat.le_refl _, by omega, hB.alloc (by omega) _⟩
  have := Blk.new w1 59 (dkCells (freshS n) w.heap.size (w.heap.size + 1))
  simpa [dkCells, freshS] using this
end Go.Proofs.Ytnbaamjdlgojaaa
