/- Walks: the reference's Barrier. -/
import Derived.Test.YtnbaamjdlgojaaaDkH
namespace Go.Proofs.Ytnbaamjdlgojaaa
open Go.RowKit

theorem splice_set {α : Type} {A B : List α} {i : Nat} {a : α} (h : A[i]? = some a) (hl : A.length = B.length) : (A.take i ++ B.drop i).set i a = A.take (i + 1) ++ B.drop (i + 1) := by
  have hi := (List.getElem?_eq_some_iff.1 h).1
  apply List.ext_getElem?
  intro j
  rw [List.getElem?_set]
  by_cases e : i = j
  · subst e
    rw [if_pos rfl, if_pos (by simp; omega), List.getElem?_append_left (by simp; omega), List.getElem?_take_of_lt (by omega), h]
  · rw [if_neg e]
    by_cases h1 : j < i
    · rw [List.getElem?_append_left (by simp; omega), List.getElem?_append_left (by simp; omega), List.getElem?_take_of_lt h1, List.getElem?_take_of_lt (by omega)]
    · rw [List.getElem?_append_right (by simp; omega), List.getElem?_append_right (by simp; omega), List.getElem?_drop, List.getElem?_drop, List.length_take, List.length_take]
      congr 1
      omega
theorem splice_len {α : Type} {A B : List α} {i : Nat} (hl : A.length = B.length) (hi : i ≤ A.length) : (A.take i ++ B.drop i).length = A.length := by simp; omega
theorem splice_end {α : Type} {A B : List α} (hl : A.length = B.length) : A.take A.length ++ B.drop A.length = A := by rw [List.take_length, hl, List.drop_length, List.append_nil]
theorem shown_none {L : List Bl} {s : DS} (h1 : s.cache = []) (h2 : s.last = L) : shownL s = L := by
  subst h2
  apply List.ext_getElem?
  intro i
  by_cases h : i < s.last.length
  · unfold shownL; rw [laidK_at h, h1, if_neg (by simp), getD_lt h]; rfl
  · rw [List.getElem?_eq_none (by rw [shown_len]; omega), List.getElem?_eq_none (by omega)]
theorem wait_none {s : DS} (h1 : s.cache = []) : waitF s = List.replicate s.last.length false := by
  unfold waitF
  rw [h1]
  apply List.ext_getElem?
  intro i
  by_cases h : i < s.last.length
  · simp [h, mkeys]
  · rw [List.getElem?_eq_none (by simp; omega), List.getElem?_eq_none (by simp; omega)]
set_option maxRecDepth 100000 in
set_option maxHeartbeats 2000000 in
theorem rbarrier_any (h sh la wa : Nat) (s : DS) (w : World) (r : RefAt w h sh la wa s) (hst : 0 ≤ s.steps ∧ s.steps ≤ 1000000) :
    Calls Try.prog 27 #[.pointer (some ⟨h, 0, none⟩)] w fun e w' => e = .returned (.int .i64 (barrierN s)) ∧ RefAt w' h sh la wa (barriered s) ∧ Chg [h, la, wa] w w' := by
  obtain ⟨c0, c1, c2, c3, c4, c5⟩ := r.c
  have hhl := r.head.lt
  have HBK := Lib.hid (barriered_ok r.ok)
  cases hd : s.down
  · rw [hd] at c5
    have HD := Lib.hid hd
    have HR := Lib.hid r
    clear hd r
    by_cases hf : s.fuse = 0
    · have ht' : decide (s.fuse ≠ 0) = false := by simp [hf]
      have HF := Lib.hid hf
      clear hf
      go_enter Try.func27, Try.ntmps27
      go_wp2_with (first
        | (go_at_call 36; refine (step_any _ _ _ _ _ _ HR.out hst).mono ?_; rw [ht']; rintro e w4 ⟨rfl, q1, q2⟩))
      go_ret
      refine ⟨ret_int (by unfold barrierN tickN; rw [HD.out, if_neg (by simp), if_pos HF.out]), ?_, q2.more (by simp)⟩
      unfold barriered; rw [HD.out, if_neg (by simp), if_pos HF.out]
      exact HR.out.ticked q1 q2
    · have ht' : decide (s.fuse ≠ 0) = true := by simp [hf]
      have HF := Lib.hid hf
      clear hf
      go_enter Try.func27, Try.ntmps27
      go_wp2_with fail
      refine (step_any _ _ _ _ _ _ HR.out hst).mono ?_
      rw [ht']
      rintro e w4 ⟨rfl, q1, q2⟩
      have R4 := HR.out.ticked q1 q2
      have HC4 : Hid (Chg [h, la, wa] w w4) := q2.more (by simp)
      have ec := ticked_cache s
      have el := ticked_last s
      generalize hT : ticked s = t at R4 ec el
      have HT := Lib.hid hT
      clear q1 q2 hT HR c0 c1 c2 c3 c4 c5
      obtain ⟨c0, c1, c2, c3, c4, c5⟩ := R4.c
      have hlo := R4.ok.lo
      have hhi := R4.ok.hi
      obtain ⟨n1, n2, n3, n4, n5, n6⟩ := R4.ne
      have HR4 := Lib.hid R4
      have HEC := Lib.hid ec
      have HEL := Lib.hid el
      have hh4 := R4.head.lt
      clear R4 ec el
      go_wp2_with fail
      go_loopw [3, 18] (fun i3 i wr => ∃ k : Nat, k ≤ t.last.length ∧ i = .int .i64 k ∧ Blk wr h 51 (refCells t sh la wa) ∧ LastAt wr sh (shownL t) ∧ LastAt wr la ((shownL t).take k ++ t.last.drop k) ∧ Blk wr wa 4 ((((List.replicate t.last.length false).take k ++ (waitF t).drop k)).map Value.bool).toArray ∧ Chg [la, wa] w4 wr) (fun _ i _ => t.last.length - (intOf i).toNat)
      case atStart => exact ⟨0, by omega, rfl, HR4.out.head, HR4.out.shown, HR4.out.last, HR4.out.waits, Chg.refl _ _⟩
      case round =>
        obtain ⟨k, hk, rfl, hh, hs, hL, hW, hC⟩ := hrel
        by_cases hlt : k < t.last.length
        · have x0 : wr.cell? ⟨h, 0, none⟩ = some (.slice (some ⟨sh, 0, none⟩) t.last.length t.last.length) := hh.cell 0
          have x1 : wr.cell? ⟨h, 1, none⟩ = some (.slice (some ⟨la, 0, none⟩) t.last.length t.last.length) := hh.cell 1
          have hsl := shown_len t
          have hwl := waitF_len t
          have hs1 : (shownL t)[k]? = some ((shownL t).getD k []) := getD_lt (by rw [hsl]; exact hlt)
          generalize (shownL t).getD k [] = sb at hs1
          have hbo := hs.2 sb (List.mem_of_getElem? hs1)
          have hrg := hs.range hs1
          have hLn : ((shownL t).take k ++ t.last.drop k).length = t.last.length := by rw [splice_len hsl (by omega), hsl]
          have hdr := hL.keep (w' := wr.drew) rfl
          have HSP := Lib.hid (splice_set hs1 hsl)
          have HH := Lib.hid hh
          have HS := Lib.hid hs
          have HW := Lib.hid hW
          have HC := Lib.hid hC
          have hwr : (List.replicate t.last.length false)[k]? = some false := by simp [hlt]
          have HSW := Lib.hid (splice_set hwr (B := waitF t) (by rw [hwl]; simp))
          have HWL := Lib.hid (splice_len (A := List.replicate t.last.length false) (B := waitF t) (i := k) (by rw [hwl]; simp) (by simp; omega))
          clear hh hs hL hW hC hwr hs1
          go_wp2_with fail
          go_still_tail 13, (by kernel_rfl)
          repeat still_step
          refine wpStill_loadMid rfl (.tmp 31) rfl sh (k * 512) sb (by simp [Act.eval]) hrg hbo ?_
          repeat still_step
          refine wpStill_nil ?_
          change wpList _ _ _ _ _ wr.drew
          go_wp2_with (first
            | ((with_reducible refine wpList_storeAt (o := ⟨none, .store _ _ _, _, _, _, _⟩) ?_ (.tmp 33) (.tmp 32) ?_ la k _ sb ?_ ?_ hdr ?_ hbo ?_); rfl; rfl; simp [Act.eval]; rfl; rw [hLn]; exact hlt; intro w5 p1 p2 p3; have H5 := p2.blk (w := wr.drew) HH.out (by simp; omega); have y2 : w5.cell? ⟨h, 2, none⟩ = some (.slice (some ⟨wa, 0, none⟩) t.last.length t.last.length) := H5.cell 2; have W5 := p2.blk (w := wr.drew) HW.out (by simp; omega); have y3 : ∃ b, w5.cell? ⟨wa, k, none⟩ = some (.bool b) := ⟨_, by { rw [W5.cell, List.getElem?_toArray, List.getElem?_map, List.getElem?_eq_getElem (by have := HWL.out; simp only [List.length_replicate] at this; omega)]; rfl }⟩; obtain ⟨yb, y3⟩ := y3; have y4 := W5.frozen k; have HP1 := Lib.hid p1; have HP2 := Lib.hid p2; have HW5 := Lib.hid W5; have HH5 := Lib.hid H5; clear p1 p2 W5 H5))
          have C6 : Chg [wa] w5 (w5.setCell ⟨wa, k, none⟩ (.bool false)) := (Chg.refl [wa] w5).setCell (p := ⟨wa, k, none⟩) (by simp) _
          go_roundw
          case rel =>
            refine ⟨k + 1, by omega, by go_num, C6.blk HH5.out (by simp; omega), C6.last (HP2.out.last (w := wr.drew) HS.out (by simp; omega)) (by simp; omega), ?_, ?_, (HC.out.drew.trans (HP2.out.more (by simp))).trans (C6.more (by simp))⟩
            · rw [← HSP.out]; exact C6.last HP1.out (by simp; omega)
            · have h6 := HW5.out.set_ k (.bool false)
              rw [← HSW.out, List.map_set]
              simpa using h6
          case measure => simp [intOf]; omega
        · obtain rfl : k = t.last.length := by omega
          have hsl := shown_len t
          have hwl := waitF_len t
          have HH := Lib.hid hh
          have HS := Lib.hid hs
          have HL := Lib.hid hL
          have HW := Lib.hid hW
          have HC := Lib.hid hC
          clear hh hs hL hW hC
          go_wp2_with fail
          go_ret
          refine ⟨ret_int (by unfold barrierN tickN; rw [HD.out, if_neg (by simp), if_neg HF.out]), ?_, HC4.out.trans (HC.out.more (by simp))⟩
          have hbk := HBK.out
          unfold barriered; rw [HD.out, if_neg (by simp), if_neg HF.out]
          rw [HT.out, ← HEC.out, ← HEL.out] at hbk ⊢
          change DsOk { t with cache := [], last := shownL t } at hbk
          change RefAt wr h sh la wa { t with cache := [], last := shownL t }
          have q1 := HL.out
          rw [← hsl, List.take_length, hsl, List.drop_length, List.append_nil] at q1
          have q2 := HW.out
          rw [List.take_of_length_le (by simp), List.drop_of_length_le (by omega), List.append_nil] at q2
          refine ⟨?_, ?_, q1, ?_, HR4.out.two, hbk⟩
          · rw [refCells_same (s' := { t with cache := [], last := shownL t }) (s := t) sh la wa hsl rfl rfl rfl]; exact HH.out
          · rw [shown_none (L := shownL t) rfl rfl]; exact HS.out
          · rw [wait_none rfl]
            show Blk wr wa _ ((List.replicate (shownL t).length false).map Value.bool).toArray
            rw [hsl]; exact q2
  · rw [hd] at c5
    have HD := Lib.hid hd
    clear hd
    go_enter Try.func27, Try.ntmps27
    go_wp2
    go_ret
    refine ⟨ret_int (by unfold barrierN; rw [HD.out, if_pos rfl]), ?_, Chg.refl _ _⟩
    unfold barriered; rw [HD.out, if_pos rfl]; exact r
end Go.Proofs.Ytnbaamjdlgojaaa
