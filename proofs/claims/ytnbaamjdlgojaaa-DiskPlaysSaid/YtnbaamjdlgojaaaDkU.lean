/- Walks: the reference's New. -/
import Derived.Test.YtnbaamjdlgojaaaDkS
namespace Go.Proofs.Ytnbaamjdlgojaaa
open Go.RowKit

theorem infoBo : (Try.prog.info? 4).map (fun i => (i.zero, i.size, i.bytes)) = some (some (.bool false), 1, 1) := by kernel_rfl
theorem rnew_bad (n : Int) (w : World) (h : n < 64 ∨ 4096 < n) : Calls Try.prog 18 #[.int .i64 n] w fun e w' => e = .returned (.pointer none) ∧ w = w' := by
  rcases h with h | h
  · go_enter Try.func18, Try.ntmps18
    go_wp2
    go_ret
    exact ⟨rfl, rfl⟩
  · have h' : decide (n < 64) = false := by simp; omega
    go_enter Try.func18, Try.ntmps18
    go_wp2
    go_ret
    exact ⟨rfl, rfl⟩
theorem made_bools (n : Nat) : madeCells (Value.bool false).cells (n * 1) = ((List.replicate n false).map Value.bool).toArray := by
  apply Array.toList_inj.1
  have := toList_madeCells_one (.bool false) n
  rw [Nat.mul_one]
  show (madeCells #[Value.bool false] n).toList = _
  rw [this]
  simp
theorem four (w : World) (t1 : TypeId) (x1 : Array Value) (t2 : TypeId) (x2 : Array Value) (t3 : TypeId) (x3 : Array Value) (t4 : TypeId) (x4 : Array Value) :
    Blk ((((w.alloc (.cells x1 t1)).alloc (.cells x2 t2)).alloc (.cells x3 t3)).alloc (.cells x4 t4)).drew w.heap.size t1 x1 ∧
    Blk ((((w.alloc (.cells x1 t1)).alloc (.cells x2 t2)).alloc (.cells x3 t3)).alloc (.cells x4 t4)).drew (w.heap.size + 1) t2 x2 ∧
    Blk ((((w.alloc (.cells x1 t1)).alloc (.cells x2 t2)).alloc (.cells x3 t3)).alloc (.cells x4 t4)).drew (w.heap.size + 1 + 1) t3 x3 ∧
    Blk ((((w.alloc (.cells x1 t1)).alloc (.cells x2 t2)).alloc (.cells x3 t3)).alloc (.cells x4 t4)).drew (w.heap.size + 1 + 1 + 1) t4 x4 ∧
    Below w.heap.size w ((((w.alloc (.cells x1 t1)).alloc (.cells x2 t2)).alloc (.cells x3 t3)).alloc (.cells x4 t4)).drew := by
  have h1 := Blk.new w t1 x1
  have h2 := Blk.new (w.alloc (.cells x1 t1)) t2 x2
  have h3 := Blk.new ((w.alloc (.cells x1 t1)).alloc (.cells x2 t2)) t3 x3
  have h4 := Blk.new (((w.alloc (.cells x1 t1)).alloc (.cells x2 t2)).alloc (.cells x3 t3)) t4 x4
  simp only [World.size_alloc] at h2 h3 h4
  exact ⟨((h1.alloc _).alloc _).alloc _, (h2.alloc _).alloc _, h3.alloc _, h4, (((((Below.refl w.heap.size w).alloc (by simp) _).alloc (by simp) _).alloc (by simp; omega) _).alloc (by simp; omega) _).drew⟩
set_option maxRecDepth 100000 in
theorem rnew_any (n : Nat) (w : World) (h1 : 64 ≤ n) (h2 : n ≤ 4096) : Calls Try.prog 18 #[.int .i64 n] w fun e w' => ∃ h sh la wa, e = .returned (.pointer (some ⟨h, 0, none⟩)) ∧ RefAt w' h sh la wa (freshS n) ∧ w.heap.size ≤ h ∧ w.heap.size ≤ sh ∧ w.heap.size ≤ la ∧ w.heap.size ≤ wa ∧ Below w.heap.size w w' := by
  have h1' : decide ((n : Int) < 64) = false := by simp; omega
  have h2' : decide ((4096 : Int) < n) = false := by simp; omega
  obtain ⟨i0, hi, hz0, hz1, hz2⟩ := info_parts infoBz
  obtain ⟨i1, hj, hy0, hy1, hy2⟩ := info_parts infoBo
  have m1 : ∀ W : World, (Instr.makeSlice 49 (.int .i64 n) (.int .i64 n)).run Try.prog W = .ok (.slice (some ⟨W.heap.size, 0, none⟩) n n) (W.alloc (.cells (flat (List.replicate n zB)).toArray 33)) := fun W => by
    have := run_makeSlice (P := Try.prog) W 49 33 i0 _ Try.underlying49 hi hz0 .i64 .i64 n n (by omega) (by omega) (by rw [hz1]; simp; omega) (by rw [hz2]; omega) (by omega)
    rw [this]
    have e : madeCells (Value.agg (ca zB)).cells (n * 512) = (flat (List.replicate n zB)).toArray := by
      apply Array.toList_inj.1
      exact made_zero n
    simp [hz1, e]
  have m2 : ∀ W : World, (Instr.makeSlice 23 (.int .i64 n) (.int .i64 n)).run Try.prog W = .ok (.slice (some ⟨W.heap.size, 0, none⟩) n n) (W.alloc (.cells ((List.replicate n false).map Value.bool).toArray 4)) := fun W => by
    have := run_makeSlice (P := Try.prog) W 23 4 i1 _ Try.underlying23 hj hy0 .i64 .i64 n n (by omega) (by omega) (by rw [hy1]; simp; omega) (by rw [hy2]; omega) (by omega)
    rw [this]
    have e := made_bools n
    rw [hy1, Int.toNat_natCast, e]
  have hfo := freshS_ok h1 h2
  have hsz : shownL (freshS n) = List.replicate n zB := shown_none rfl rfl
  have hwz : waitF (freshS n) = List.replicate n false := by rw [wait_none rfl]; simp [freshS]
  have hln : (freshS n).last.length = n := by simp [freshS]
  have HB3 : ∀ (x y z : Obj), Hid (Below w.heap.size w (((w.drew.alloc x).alloc y).alloc z)) := fun x y z => ((((Below.refl w.heap.size w).drew).alloc (by simp) x).alloc (by simp) y).alloc (by simp; omega) z
  generalize hX : (flat (List.replicate n zB)).toArray = X at m1
  generalize hY : ((List.replicate n false).map Value.bool).toArray = Y at m2
  have HX := Lib.hid hX
  have HY := Lib.hid hY
  have FIN : ∀ (W : World) (sh la wa : Nat), Blk W (w.heap.size + 1 + 1 + 1) 51 #[.slice (some ⟨sh, 0, none⟩) n n, .slice (some ⟨la, 0, none⟩) n n, .slice (some ⟨wa, 0, none⟩) n n, .int .i64 0, .int .i64 (-1), .bool false] →
      Blk W sh 33 X → Blk W la 33 X → Blk W wa 4 Y → sh ≠ la → w.heap.size ≤ sh → w.heap.size ≤ la → w.heap.size ≤ wa → Below w.heap.size w W →
      ∃ h sh la wa, Ending.returned (Value.pointer (some ⟨w.heap.size + 1 + 1 + 1, 0, none⟩)) = .returned (.pointer (some ⟨h, 0, none⟩)) ∧ RefAt W h sh la wa (freshS n) ∧ w.heap.size ≤ h ∧ w.heap.size ≤ sh ∧ w.heap.size ≤ la ∧ w.heap.size ≤ wa ∧ Below w.heap.size w W := by
    intro W sh la wa h1 h2 h3 h4 h5 h6 h7 h8 h9
    refine ⟨_, sh, la, wa, rfl, ⟨?_, ⟨?_, ?_⟩, ⟨?_, ?_⟩, ?_, h5, hfo⟩, by omega, h6, h7, h8, h9⟩
    · unfold refCells; rw [hln]; exact h1
    · rw [hsz, hX]; exact h2
    · rw [hsz]; exact hfo.last
    · show Blk _ _ _ (flat (List.replicate n zB)).toArray
      rw [hX]; exact h3
    · exact hfo.last
    · rw [hwz, hY]; exact h4
  clear hX hY hi hj hz0 hz1 hz2 hy0 hy1 hy2
  go_enter Try.func18, Try.ntmps18
  go_wp2_with fail
  go_region
  go_wp2
  all_goals go_ret
  all_goals first
    | exact FIN _ w.heap.size (w.heap.size + 1) (w.heap.size + 1 + 1) (four w _ _ _ _ _ _ _ _).2.2.2.1 (four w _ _ _ _ _ _ _ _).1 (four w _ _ _ _ _ _ _ _).2.1 (four w _ _ _ _ _ _ _ _).2.2.1 (by omega) (by omega) (by omega) (by omega) (four w _ _ _ _ _ _ _ _).2.2.2.2
    | exact FIN _ w.heap.size (w.heap.size + 1 + 1) (w.heap.size + 1) (four w _ _ _ _ _ _ _ _).2.2.2.1 (four w _ _ _ _ _ _ _ _).1 (four w _ _ _ _ _ _ _ _).2.2.1 (four w _ _ _ _ _ _ _ _).2.1 (by omega) (by omega) (by omega) (by omega) (four w _ _ _ _ _ _ _ _).2.2.2.2
    | exact FIN _ (w.heap.size + 1) w.heap.size (w.heap.size + 1 + 1) (four w _ _ _ _ _ _ _ _).2.2.2.1 (four w _ _ _ _ _ _ _ _).2.1 (four w _ _ _ _ _ _ _ _).1 (four w _ _ _ _ _ _ _ _).2.2.1 (by omega) (by omega) (by omega) (by omega) (four w _ _ _ _ _ _ _ _).2.2.2.2
    | exact FIN _ (w.heap.size + 1) (w.heap.size + 1 + 1) w.heap.size (four w _ _ _ _ _ _ _ _).2.2.2.1 (four w _ _ _ _ _ _ _ _).2.1 (four w _ _ _ _ _ _ _ _).2.2.1 (four w _ _ _ _ _ _ _ _).1 (by omega) (by omega) (by omega) (by omega) (four w _ _ _ _ _ _ _ _).2.2.2.2
    | exact FIN _ (w.heap.size + 1 + 1) w.heap.size (w.heap.size + 1) (four w _ _ _ _ _ _ _ _).2.2.2.1 (four w _ _ _ _ _ _ _ _).2.2.1 (four w _ _ _ _ _ _ _ _).1 (four w _ _ _ _ _ _ _ _).2.1 (by omega) (by omega) (by omega) (by omega) (four w _ _ _ _ _ _ _ _).2.2.2.2
    | exact FIN _ (w.heap.size + 1 + 1) (w.heap.size + 1) w.heap.size (four w _ _ _ _ _ _ _ _).2.2.2.1 (four w _ _ _ _ _ _ _ _).2.2.1 (four w _ _ _ _ _ _ _ _).2.1 (four w _ _ _ _ _ _ _ _).1 (by omega) (by omega) (by omega) (by omega) (four w _ _ _ _ _ _ _ _).2.2.2.2
end Go.Proofs.Ytnbaamjdlgojaaa
