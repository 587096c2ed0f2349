/- Walks: the reference's Write. -/
import Derived.Test.YtnbaamjdlgojaaaDkG
namespace Go.Proofs.Ytnbaamjdlgojaaa
open Go.RowKit

theorem wrote_down {s : DS} {n : Int} (hm : mayN s n = 0) : s.down = false := by
  cases hd : s.down
  · rfl
  · unfold mayN at hm; rw [hd] at hm; simp at hm
theorem RefAt.ticked {w w' : World} {h sh la wa : Nat} {s : DS} (r : RefAt w h sh la wa s) (hb : Blk w' h 51 (refCells (ticked s) sh la wa)) (hc : Chg [h] w w') : RefAt w' h sh la wa (ticked s) := by
  obtain ⟨n1, n2, n3, n4, n5, n6⟩ := r.ne
  have ec := ticked_cache s
  have el := ticked_last s
  have e1 : shownL (Go.Proofs.Ytnbaamjdlgojaaa.ticked s) = shownL s := by unfold shownL; rw [ec, el]
  have e2 : waitF (Go.Proofs.Ytnbaamjdlgojaaa.ticked s) = waitF s := by unfold waitF; rw [ec, el]
  have hf := r.ok.fuse
  obtain ⟨a1, a2, a3, a4, a5, a6, a7⟩ := r.ok
  refine ⟨hb, by rw [e1]; exact hc.last r.shown (by simp; omega), by rw [el]; exact hc.last r.last (by simp; omega), by rw [e2]; exact hc.blk r.waits (by simp; omega), r.two, ⟨by rw [el]; exact a1, by rw [el]; exact a2, by rw [ec, el]; exact a3, by rw [ec]; exact a4, by rw [ec]; exact a5, by rw [el]; exact a6, ?_⟩⟩
  unfold Go.Proofs.Ytnbaamjdlgojaaa.ticked; split
  · simpa using hf
  · simp only; split <;> omega
theorem refCells_same {s s' : DS} (sh la wa : Nat) (h1 : s'.last.length = s.last.length) (h2 : s'.steps = s.steps) (h3 : s'.fuse = s.fuse) (h4 : s'.down = s.down) : refCells s' sh la wa = refCells s sh la wa := by
  unfold refCells; rw [h1, h2, h3, h4]
theorem put_ok {s : DS} (h : DsOk s) {n : Int} {bb : Bl} (hn : 0 ≤ n ∧ n < (s.last.length : Int)) (hb : okB bb) : DsOk { s with cache := mput s.cache n bb } := by
  obtain ⟨a1, a2, a3, a4, a5, a6, a7⟩ := h
  refine ⟨a1, a2, fun k hk => ?_, nodup_mput a4 n bb, fun k c hk => ?_, a6, a7⟩
  · rw [mkeys_mput] at hk
    split at hk
    · exact a3 k hk
    · rcases List.mem_append.1 hk with e | e
      · exact a3 k e
      · have := List.mem_singleton.1 e; subst this; exact hn
  · simp only [mget_mput] at hk
    split at hk
    · injection hk with hk; subst hk; exact hb
    · exact a5 k c hk
set_option maxRecDepth 100000 in
set_option maxHeartbeats 2000000 in
theorem rwrite_any (h sh la wa : Nat) (s : DS) (n : Int) (bb : Bl) (w : World) (r : RefAt w h sh la wa s) (hbb : okB bb) (hst : 0 ≤ s.steps ∧ s.steps ≤ 1000000) :
    Calls Try.prog 30 #[.pointer (some ⟨h, 0, none⟩), .int .i64 n, .agg (ca bb)] w fun e w' => e = .returned (.int .i64 (writeN s n)) ∧ RefAt w' h sh la wa (wrote s n bb) ∧ Chg [h, sh, wa] w w' := by
  have hz := zeroB
  have hB := (Below.refl w.heap.size w).alloc (Nat.le_refl _) (.cells (ca bb) 33)
  have HB := Lib.hid hB
  have HR := Lib.hid (r.below hB)
  have H0 : Hid (BlAt (w.alloc (.cells (ca bb) 33)) w.heap.size bb) := ⟨Blk.new w _ _, hbb⟩
  have hrok := Lib.hid (readB_ok r.ok n)
  have hhl := r.head.lt
  have hsl := r.shown.1.lt
  have hwl := r.waits.lt
  have hll := r.last.1.lt
  by_cases hm : mayN s n = 0
  · have hm' : (mayN s n != 0) = false := by simp [hm]
    have HM := Lib.hid hm
    have hn : 0 ≤ n ∧ n < (s.last.length : Int) := by
      unfold mayN at hm
      split at hm
      · omega
      · split at hm <;> omega
    obtain ⟨m, rfl⟩ : ∃ m : Nat, n = m := ⟨n.toNat, by omega⟩
    have hmn : m < s.last.length := by omega
    have hlo := r.ok.lo
    have hhi := r.ok.hi
    clear hm hB r hn
    go_enter Try.func30, Try.ntmps30
    go_wp2_with fail
    refine (rread_any _ _ _ _ _ _ _ HR.out).mono ?_
    rintro e w1 ⟨rfl, k1⟩
    have HB1 := Lib.hid (HB.out.trans (k1.mono (by simp)))
    have HR1 := Lib.hid (HR.out.below k1)
    have H01 : Hid (BlAt w1 w.heap.size bb) := ⟨H0.out.1.below k1 (by simp), hbb⟩
    have hs1 : w.heap.size + 1 ≤ w1.heap.size := by have := k1.size; simpa using this
    clear k1 HB H0 HR
    have F1 := Lib.hid (BlAt.fresh w1)
    have B2 := (Below.refl w1.heap.size w1).alloc (Nat.le_refl _) (.cells (ca zB) 33)
    have R2 := Lib.hid (HR1.out.below B2)
    have H02 : Hid (BlAt (w1.alloc (.cells (ca zB) 33)) w.heap.size bb) := ⟨H01.out.1.below B2 (by omega), hbb⟩
    have HB2 := Lib.hid (HB1.out.trans (B2.mono (by omega)))
    clear B2
    go_wp2_with (first
      | ((with_reducible refine wpList_storeB (o := ⟨none, .store _ (.tmp 7) _, _, _, _, _⟩) ?_ (.tmp 7) (.tmp 13) ?_ w1.heap.size zB (readB s m) ?_ ?_ F1.out hrok.out ?_); rfl; rfl; rfl; rfl; intro w3 p1 p2 p3))
    have R3 := Lib.hid (R2.out.keep p2 (by simp; omega) (by simp; omega) (by simp; omega) (by simp; omega))
    have H03 : Hid (BlAt w3 w.heap.size bb) := ⟨p2.blk H02.out.1 (by simp; omega), hbb⟩
    have HB3 := Lib.hid (HB2.out.trans (p2.below (by simp; omega) (by simp; omega)))
    have hs3 := HB3.out.size
    clear p1 p2 p3 R2 H02 HB2 F1 H01 HR1 HB1
    by_cases hf : s.fuse = 0
    · have ht' : decide (s.fuse ≠ 0) = false := by simp [hf]
      have HF := Lib.hid hf
      clear hf
      go_wp2_with fail
      refine (step_any _ _ _ _ _ _ R3.out hst).mono ?_
      rw [ht']
      rintro e w4 ⟨rfl, q1, q2⟩
      go_wp2_with fail
      go_ret
      refine ⟨ret_int (by unfold writeN tickN; rw [if_pos HM.out, if_pos HF.out]), ?_, (Chg.of_below HB3.out _).trans (q2.more (by simp))⟩
      unfold wrote; rw [if_pos HM.out, if_pos HF.out]
      exact R3.out.ticked q1 q2
    · have ht' : decide (s.fuse ≠ 0) = true := by simp [hf]
      have HF := Lib.hid hf
      clear hf
      go_wp2_with fail
      refine (step_any _ _ _ _ _ _ R3.out hst).mono ?_
      rw [ht']
      rintro e w4 ⟨rfl, q1, q2⟩
      have R4 := R3.out.ticked q1 q2
      have H04 : BlAt w4 w.heap.size bb := ⟨q2.blk H03.out.1 (by simp; omega), hbb⟩
      have HC4 : Hid (Chg [h, sh, wa] w w4) := (Chg.of_below HB3.out _).trans (q2.more (by simp))
      have ec := ticked_cache s
      have el := ticked_last s
      generalize hT : ticked s = t at R4 ec el
      have HT := Lib.hid hT
      clear q1 q2 hT R3 H03 HB3
      obtain ⟨c0, c1, c2, c3, c4, c5⟩ := R4.c
      rw [el] at c0 c1 c2
      have HEC := Lib.hid ec
      have HEL := Lib.hid el
      clear ec el
      have hh4 := R4.head.lt
      go_wp2_with fail
      go_still_tail 7, (by kernel_rfl)
      repeat still_step
      refine wpStill_loadMid rfl (.tmp 5) rfl w.heap.size 0 bb rfl H04.range hbb ?_
      repeat still_step
      refine wpStill_nil ?_
      change wpList _ _ _ _ _ w4.drew
      have hL5 : LastAt w4.drew sh (shownL t) := R4.shown
      have hwa : (waitF t)[m]? = some ((waitF t).getD m false) := by
        rw [List.getD_eq_getElem?_getD, List.getElem?_eq_getElem (by rw [waitF_len, HEL.out]; exact hmn)]; rfl
      generalize (waitF t).getD m false = wb at hwa
      obtain ⟨n1, n2, n3, n4, n5, n6⟩ := R4.ne
      go_wp2_with (first
        | ((with_reducible refine wpList_storeAt (o := ⟨none, .store _ _ _, _, _, _, _⟩) ?_ (.tmp 27) (.tmp 26) ?_ sh m (shownL t) bb ?_ ?_ hL5 ?_ hbb ?_); rfl; rfl; simp [Act.eval]; rfl; rw [shown_len, HEL.out]; exact hmn; intro w5 p1 p2 p3; have H5 := p2.blk (w := w4.drew) R4.head (by simp; omega); have y2 : w5.cell? ⟨h, 2, none⟩ = some (.slice (some ⟨wa, 0, none⟩) s.last.length s.last.length) := by { rw [← HEL.out]; exact H5.cell 2 }; have W5 := p2.blk (w := w4.drew) R4.waits (by simp; omega); have y3 : w5.cell? ⟨wa, m, none⟩ = some (.bool wb) := by { rw [W5.cell]; simp [hwa] }; have y4 := W5.frozen m))
      go_ret
      have C6 : Chg [wa] w5 (w5.setCell ⟨wa, m, none⟩ (.bool true)) := (Chg.refl [wa] w5).setCell (p := ⟨wa, m, none⟩) (by simp) _
      have hm5 : m < t.last.length := by rw [HEL.out]; exact hmn
      have hlt := p2.last (w := w4.drew) R4.last (by simp; omega)
      refine ⟨ret_int (by unfold writeN tickN; rw [if_pos HM.out, if_neg HF.out]), ?_, (HC4.out.drew.trans (p2.more (by simp))).trans (C6.more (by simp))⟩
      unfold wrote; rw [if_pos HM.out, if_neg HF.out, HT.out, ← HEC.out]
      refine ⟨?_, ?_, ?_, ?_, R4.two, put_ok R4.ok (by omega) hbb⟩
      · exact (show Blk _ h _ (refCells t sh la wa) from C6.blk H5 (by simp; omega))
      · show LastAt _ sh (laidK t.last (mput t.cache m bb) [])
        rw [shown_put hm5]; exact C6.last p1 (by simp; omega)
      · exact C6.last hlt (by simp; omega)
      · have e := waits_put hm5 bb
        have h6 := W5.set_ m (.bool true)
        show Blk _ wa _ (((List.range t.last.length).map fun i : Nat => decide ((i : Int) ∈ mkeys (mput t.cache m bb))).map Value.bool).toArray
        rw [e, List.map_set]
        simpa using h6
  · have hm' : (mayN s n != 0) = true := by simp [hm]
    have HM := Lib.hid hm
    clear hm hB r
    go_enter Try.func30, Try.ntmps30
    go_wp2_with fail
    refine (rread_any _ _ _ _ _ _ _ HR.out).mono ?_
    rintro e w1 ⟨rfl, k1⟩
    have HB1 := Lib.hid (HB.out.trans (k1.mono (by simp)))
    have HR1 := Lib.hid (HR.out.below k1)
    have hs1 : w.heap.size + 1 ≤ w1.heap.size := by have := k1.size; simpa using this
    clear k1 HB H0 HR
    have F1 := Lib.hid (BlAt.fresh w1)
    have B2 := (Below.refl w1.heap.size w1).alloc (Nat.le_refl _) (.cells (ca zB) 33)
    have R2 := Lib.hid (HR1.out.below B2)
    have HB2 := Lib.hid (HB1.out.trans (B2.mono (by omega)))
    clear B2
    go_wp2_with (first
      | ((with_reducible refine wpList_storeB (o := ⟨none, .store _ (.tmp 7) _, _, _, _, _⟩) ?_ (.tmp 7) (.tmp 13) ?_ w1.heap.size zB (readB s n) ?_ ?_ F1.out hrok.out ?_); rfl; rfl; rfl; rfl; intro w3 p1 p2 p3))
    go_ret
    refine ⟨ret_int (by unfold writeN; rw [if_neg HM.out]), ?_, Chg.of_below (HB2.out.trans (p2.below (by simp; omega) (by simp; omega))) _⟩
    unfold wrote; rw [if_neg HM.out]; exact R2.out.keep p2 (by simp; omega) (by simp; omega) (by simp; omega) (by simp; omega)
end Go.Proofs.Ytnbaamjdlgojaaa
