/- Parts of the proof: UnE6. -/
import Derived.Test.YtklmckbpbloonaaUT32
namespace Go.Proofs.Ytklmckbpbloonaa
open Go.RowKit

set_option maxRecDepth 100000 in
theorem rhasE_any (B : Nat) (A : Option Addr) (n c : Nat) (es : List Edg) (x : Edg) (w : World) (h : RdE w B A n c es) (hB : B ≤ w.heap.size) :
    Calls Try.prog 71 #[.slice A n c, edV x] w fun e w' => e = .returned (.bool (hasE es x)) ∧ Below w.heap.size w w' := by
  have hl := h.len
  obtain ⟨hn, hc⟩ := h.bd
  have HB1 := Lib.hid ((Below.refl w.heap.size w).alloc (Nat.le_refl _) (.cells #[.int .u32 x.1, .int .u32 x.2.1, .int .u32 x.2.2] 39))
  have HX1 := Lib.hid (Blk.new w 39 #[.int .u32 x.1, .int .u32 x.2.1, .int .u32 x.2.2])
  have HL := Lib.hid hl
  clear hl
  rw [← edV_lit]
  go_enter Try.func71, Try.ntmps71
  go_wp2_with fail
  go_loopw [6, 9] (fun _ s9 wr => ∃ k : Nat, k ≤ n ∧ s9 = .int .i64 k ∧ Below w.heap.size w wr ∧ Blk wr w.heap.size 39 #[.int .u32 x.1, .int .u32 x.2.1, .int .u32 x.2.2] ∧ Hid (x ∉ es.take k)) (fun _ s9 _ => n - (intOf s9).toNat)
  case atStart => exact ⟨0, by omega, rfl, HB1.out, HX1.out, by show _ ∉ _; simp⟩
  case round =>
    clear HB1 HX1
    obtain ⟨k, hk, rfl, hbr, hX, hM⟩ := hrel
    by_cases hlt : k < n
    · have hq := h.below (hbr.mono hB)
      obtain ⟨ad, y, rfl, hbl, hy, hyb, hc1, hc2, hc3⟩ := hq.at_ hlt
      obtain ⟨z0, z1, z2⟩ := hX.c3
      have hXl := hX.lt
      have HX := Lib.hid (hX.alloc (.cells #[.int .u32 y.1, .int .u32 y.2.1, .int .u32 y.2.2] 39))
      have HBR := Lib.hid (hbr.alloc hbr.size (.cells #[.int .u32 y.1, .int .u32 y.2.1, .int .u32 y.2.2] 39))
      have HY := Lib.hid hy
      clear hX hbr hq hy
      by_cases e : y = x
      · subst e
        go_wp2_with fail
        go_ret
        exact ⟨ret_bool (by unfold hasE; rw [decide_eq_true (List.mem_of_getElem? HY.out)]), HBR.out⟩
      · have HE := Lib.hid e
        have e' : ¬ (y.1 = x.1 ∧ y.2.1 = x.2.1 ∧ y.2.2 = x.2.2) := fun h => e (Prod.ext h.1 (Prod.ext h.2.1 h.2.2))
        clear e
        by_cases d1 : y.1 = x.1
        · by_cases d2 : y.2.1 = x.2.1
          · have d3 : ¬ y.2.2 = x.2.2 := fun h => e' ⟨d1, d2, h⟩
            clear e'
            go_wp2_with fail
            go_roundw
            case rel => exact ⟨k + 1, by omega, by go_num, by have q := HBR.out; rw [d1, d2] at q; exact q, by have q := HX.out; rw [d1, d2] at q; exact q, by show _ ∉ _; rw [takeE_at HY.out]; simp only [List.mem_append, List.mem_singleton, not_or]; exact ⟨hM.out, fun h => HE.out h.symm⟩⟩
            case measure => simp [intOf]; omega
          · clear e'
            go_wp2_with fail
            go_roundw
            case rel => exact ⟨k + 1, by omega, by go_num, by have q := HBR.out; rw [d1] at q; exact q, by have q := HX.out; rw [d1] at q; exact q, by show _ ∉ _; rw [takeE_at HY.out]; simp only [List.mem_append, List.mem_singleton, not_or]; exact ⟨hM.out, fun h => HE.out h.symm⟩⟩
            case measure => simp [intOf]; omega
        · clear e'
          go_wp2_with fail
          go_roundw
          case rel => exact ⟨k + 1, by omega, by go_num, HBR.out, HX.out, by show _ ∉ _; rw [takeE_at HY.out]; simp only [List.mem_append, List.mem_singleton, not_or]; exact ⟨hM.out, fun h => HE.out h.symm⟩⟩
          case measure => simp [intOf]; omega
    · obtain rfl : k = n := by omega
      go_wp2_with fail
      go_ret
      exact ⟨ret_bool (by have := hM.out; rw [List.take_of_length_le (by rw [HL.out]; exact Nat.le_refl _)] at this; unfold hasE; rw [decide_eq_false this]), hbr⟩
end Go.Proofs.Ytklmckbpbloonaa
