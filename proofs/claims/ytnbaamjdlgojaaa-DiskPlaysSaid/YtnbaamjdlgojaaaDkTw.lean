/- Walks: a write done at both. -/
import Derived.Test.YtnbaamjdlgojaaaDkT
import Derived.Test.YtnbaamjdlgojaaaHeld
namespace Go.Proofs.Ytnbaamjdlgojaaa
open Go.RowKit

def fillF (b : Int) (i : Nat) : Int := (b + i) % 256
theorem fillF_ok (b : Int) (i : Nat) : 0 ≤ fillF b i ∧ fillF b i < 256 := by unfold fillF; omega
def fillTo (b : Int) (k : Nat) : Bl := ((List.range 512).map (fillF b)).take k ++ (List.replicate 512 (0 : Int)).drop k
theorem fillTo_ok (b : Int) {k : Nat} (hk : k ≤ 512) : okB (fillTo b k) := by
  unfold fillTo
  refine ⟨by rw [List.length_append, List.length_take, List.length_map, List.length_range, List.length_drop, List.length_replicate]; omega, fun x hx => ?_⟩
  rcases List.mem_append.1 hx with hx | hx
  · obtain ⟨i, _, rfl⟩ := List.mem_map.1 (List.mem_of_mem_take hx)
    exact fillF_ok _ _
  · have := List.eq_of_mem_replicate (List.mem_of_mem_drop hx); omega
theorem fillTo_set (b : Int) {k : Nat} (hk : k < 512) : (fillTo b k).set k (fillF b k) = fillTo b (k + 1) :=
  splice_set (by rw [List.getElem?_map, List.getElem?_range hk]; rfl) (by rw [List.length_map, List.length_range, List.length_replicate])
theorem fillTo_zero (b : Int) : fillTo b 0 = zB := by unfold fillTo zB; rw [List.take_zero, List.drop_zero, List.nil_append]
theorem BlAt.put {w : World} {g k : Nat} {b : Bl} {x : Int} (h : BlAt w g b) (hx : 0 ≤ x ∧ x < 256) : BlAt (w.setCell ⟨g, k, none⟩ (.int .u8 x)) g (b.set k x) := by
  refine ⟨?_, by rw [List.length_set]; exact h.2.1, fun y hy => ?_⟩
  · have := h.1.set_ k (.int .u8 x)
    unfold ca bc at this ⊢
    rw [List.map_set]
    simpa using this
  · rcases List.mem_or_eq_of_mem_set hy with hy | rfl
    · exact h.2.2 y hy
    · exact hx
theorem BlAt.cellAt {w : World} {g k : Nat} {b : Bl} (h : BlAt w g b) (hk : k < 512) : ∃ x, w.cell? ⟨g, k, none⟩ = some (.int .u8 x) := by
  refine ⟨b[k]'(by rw [h.2.1]; exact hk), ?_⟩
  rw [h.1.cell]
  simp [ca, bc, List.getElem?_eq_getElem (show k < b.length by rw [h.2.1]; exact hk)]
theorem Pair.past {w w' : World} {B M g b l h sh la wa N : Nat} {s : DS} (p : Pair w B M g b l h sh la wa s) (hN : g < N ∧ b < N ∧ l < N ∧ h < N ∧ sh < N ∧ la < N ∧ wa < N) (hb : Below N w w') : Pair w' B M g b l h sh la wa s := by
  obtain ⟨n1, n2, n3, n4, n5, n6, n7⟩ := hN
  refine ⟨⟨p.dk.head.below hb n1, p.dk.cache.below hb n2, p.dk.last.keep (hb.block l n3), p.dk.ok⟩, ⟨p.rf.head.below hb n4, p.rf.shown.keep (hb.block sh n5), p.rf.last.keep (hb.block la n6), p.rf.waits.below hb n7, p.rf.two, p.rf.ok⟩, p.lo, p.hi⟩
theorem exec_loadR {W : World} {o : Oper} {a : Act} {x : Operand} {g i : Nat} {b : Bl} (ho : o.op = .load 33 x) (hx : a.eval x = .pointer (some ⟨g, i, none⟩)) (hr : W.rangeAt g i (bc b)) (hb : okB b) : (execOp a.eval o).run Try.prog W = .ok (.value (.agg (ca b))) W := by
  unfold execOp
  simp only [ho, hx, Instr.loadAt, Instr.sureAddr, Sem.run_bind, Sem.run_pure, Result.andThen_ok, run_loadVar_mid W g i 33 (bc b) _ hr Try.underlying33 rfl (infoBl hb)]
  rfl
theorem dw_S {w w' : World} {ga gb : Nat} {bb : Bl} {x : Deed} (h1 : Blk w gb 33 (ca bb)) (h2 : okB bb) (h3 : Blk w ga 30 #[.int .i64 x.kind, .int .i64 x.at_, .int .u8 x.b, .slice x.kA x.kn x.kc]) (hb : Below w.heap.size w w') : w'.rangeAt gb 0 (bc bb) ∧ w'.cell? ⟨ga, 1, none⟩ = some (.int .i64 x.at_) :=
  ⟨BlAt.range ⟨h1.below hb h1.lt, h2⟩, (h3.below hb h3.lt).cell 1⟩
theorem dw_S3 {w w' : World} {ga gb g b l h sh la wa : Nat} {bb : Bl} {x : Deed} (hgb : ga + 1 = gb) (hS : g < ga ∧ b < ga ∧ l < ga ∧ h < ga ∧ sh < ga ∧ la < ga ∧ wa < ga) (h1 : Blk w gb 33 (ca bb)) (h2 : okB bb) (h3 : Blk w ga 30 #[.int .i64 x.kind, .int .i64 x.at_, .int .u8 x.b, .slice x.kA x.kn x.kc]) (hb : Chg [g, b] w w') : w'.rangeAt gb 0 (bc bb) ∧ w'.cell? ⟨ga, 1, none⟩ = some (.int .i64 x.at_) :=
  ⟨BlAt.range ⟨hb.blk h1 (by simp; omega), h2⟩, (hb.blk h3 (by simp; omega)).cell 1⟩
set_option maxRecDepth 100000 in
set_option maxHeartbeats 4000000 in
theorem do_write (B M g b l h sh la wa : Nat) (s : DS) (x : Deed) (w : World) (p : Pair w B M g b l h sh la wa s) (hst : 0 ≤ s.steps ∧ s.steps ≤ 1000000) (hx : x.kind.tmod 5 ≠ 1 ∧ x.kind.tmod 5 ≠ -1 ∧ x.kind.tmod 5 ≠ 2 ∧ x.kind.tmod 5 ≠ -2 ∧ x.kind.tmod 5 ≠ 3 ∧ x.kind.tmod 5 ≠ -3 ∧ x.kind.tmod 5 ≠ 4 ∧ x.kind.tmod 5 ≠ -4) :
    Calls Try.prog 20 #[.pointer (some ⟨g, 0, none⟩), .pointer (some ⟨h, 0, none⟩), deedV x] w fun e w' => e = .returned (.bool true) ∧ Pair w' B M g b l h sh la wa (wrote s x.at_ (fillTo x.b 512)) ∧ Below B w w' := by
  have hB0 := (Below.refl w.heap.size w).alloc (Nat.le_refl _) (.cells #[.int .i64 x.kind, .int .i64 x.at_, .int .u8 x.b, .slice x.kA x.kn x.kc] 30)
  have gsz : Hid (g < w.heap.size ∧ b < w.heap.size ∧ l < w.heap.size ∧ h < w.heap.size ∧ sh < w.heap.size ∧ la < w.heap.size ∧ wa < w.heap.size) :=
    ⟨p.dk.head.lt, p.dk.cache.lt, p.dk.last.1.lt, p.rf.head.lt, p.rf.shown.1.lt, p.rf.last.1.lt, p.rf.waits.lt⟩
  have hws := p.size
  have HX0 := Lib.hid (Blk.new w 30 #[.int .i64 x.kind, .int .i64 x.at_, .int .u8 x.b, .slice x.kA x.kn x.kc])
  have HP0 := Lib.hid (p.on hB0)
  have HB0 := Lib.hid (hB0.mono hws.1)
  have hz := zeroB
  obtain ⟨t1, t2, t3, t4, t5, t6, t7, t8⟩ := hx
  have u1 : (x.kind.tmod 5 == 1) = false := by simp [t1]
  have u2 : (x.kind.tmod 5 == -1) = false := by simp [t2]
  have u3 : (x.kind.tmod 5 == 2) = false := by simp [t3]
  have u4 : (x.kind.tmod 5 == -2) = false := by simp [t4]
  have u5 : (x.kind.tmod 5 == 3) = false := by simp [t5]
  have u6 : (x.kind.tmod 5 == -3) = false := by simp [t6]
  have u7 : (x.kind.tmod 5 == 4) = false := by simp [t7]
  have u8 : (x.kind.tmod 5 == -4) = false := by simp [t8]
  unfold deedV
  clear p hB0 t1 t2 t3 t4 t5 t6 t7 t8
  go_enter Try.func20, Try.ntmps20
  go_wp2_with fail
  have HF := Lib.hid (BlAt.fresh (w.alloc (.cells #[.int .i64 x.kind, .int .i64 x.at_, .int .u8 x.b, .slice x.kA x.kn x.kc] 30)))
  have HP1 := Lib.hid (HP0.out.on ((Below.refl _ (w.alloc (.cells #[.int .i64 x.kind, .int .i64 x.at_, .int .u8 x.b, .slice x.kA x.kn x.kc] 30))).alloc (Nat.le_refl _) (.cells (ca zB) 33)))
  have HX1 := Lib.hid (HX0.out.alloc (.cells (ca zB) 33))
  have HB1 := Lib.hid (HB0.out.alloc (by simp; omega) (.cells (ca zB) 33))
  generalize (w.alloc (.cells #[.int .i64 x.kind, .int .i64 x.at_, .int .u8 x.b, .slice x.kA x.kn x.kc] 30)).alloc (.cells (ca zB) 33) = w1 at *
  rw [World.size_alloc] at HF
  have hFl := HF.out.1.lt
  generalize hgb : w.heap.size + 1 = gb at *
  generalize hga : w.heap.size = ga at *
  clear HP0 HX0 HB0
  go_loopw [12, 16] (fun _ i wr => ∃ k : Nat, k ≤ 512 ∧ i = .int .i64 k ∧ BlAt wr gb (fillTo x.b k) ∧ Pair wr B M g b l h sh la wa s ∧ Blk wr ga 30 #[.int .i64 x.kind, .int .i64 x.at_, .int .u8 x.b, .slice x.kA x.kn x.kc] ∧ Below B w wr ∧ gb < wr.heap.size) (fun _ i _ => 512 - (intOf i).toNat)
  case atStart => exact ⟨0, by omega, rfl, by rw [fillTo_zero]; exact HF.out, HP1.out, HX1.out, HB1.out, hFl⟩
  case round =>
    clear HF HP1 HX1 HB1
    obtain ⟨k, hk, rfl, hb, hp, hX, hB, hgl⟩ := hrel
    by_cases hlt : k < 512
    · obtain ⟨y, hy⟩ := hb.cellAt hlt
      have hf := hb.1.frozen k
      have x2 : wr.cell? ⟨ga, 2, none⟩ = some (.int .u8 x.b) := hX.cell 2
      have HBL := Lib.hid hb
      have HP := Lib.hid hp
      have HX := Lib.hid hX
      have HB := Lib.hid hB
      clear hb hp hX hB
      go_wp2_with fail
      go_roundw
      case rel =>
        have C1 := (Chg.refl [gb] wr).setCell (p := ⟨gb, k, none⟩) (by simp) (.int .u8 (fillF x.b k))
        have p1 := (HBL.out.put (k := k) (fillF_ok x.b k))
        rw [fillTo_set x.b hlt] at p1
        have B2 : Below gb wr (wr.setCell ⟨gb, k, none⟩ (.int .u8 (fillF x.b k))) := C1.below (by omega) (by simp)
        refine ⟨k + 1, by omega, by go_num, p1, HP.out.past gsz.out (B2.mono (by omega)), HX.out.below B2 (by omega), HB.out.trans (B2.mono (by omega)), ?_⟩
        show gb < (wr.setCell ⟨gb, k, none⟩ (.int .u8 (fillF x.b k))).heap.size
        have := B2.size
        omega
      case measure => simp [intOf]; omega
    · obtain rfl : k = 512 := by omega
      rw [show ((512 : Nat) : Int) = 512 from rfl]
      generalize hbb : fillTo x.b 512 = bb at *
      have HBB : Hid (okB bb) := by show okB bb; rw [← hbb]; exact fillTo_ok _ (Nat.le_refl _)
      have HEB := Lib.hid hbb
      clear hbb
      have x1 : wr.cell? ⟨ga, 1, none⟩ = some (.int .i64 x.at_) := hX.cell 1
      have hr := hb.range
      have S0 : wr.rangeAt gb 0 (bc bb) ∧ wr.cell? ⟨ga, 1, none⟩ = some (.int .i64 x.at_) := ⟨hr, x1⟩
      have HS0 := Lib.hid S0
      have HBL := Lib.hid hb
      have HP := Lib.hid hp
      have HX := Lib.hid hX
      have HB := Lib.hid hB
      clear hb hp hX hB S0
      have Y0 := Lib.hid (dw_S (w' := wr.drew) HBL.out.1 HBB.out HX.out (Below.refl _ _).drew)
      have hu := Try.underlying33
      have hbl := bc_len bb
      rw [HBB.out.1] at hbl
      have hi : (Try.prog.info? 33).map (·.size) = some (bc bb).length := infoBl HBB.out
      go_wp2_with fail
      refine wp_region_held_drew (S := fun W => W.rangeAt gb 0 (bc bb) ∧ W.cell? ⟨ga, 1, none⟩ = some (.int .i64 x.at_)) (by kernel_rfl) Y0.out (fun hHeld => ?_)
      refine held_take 0 27 (.pointer (some ⟨g, 0, none⟩)) (by simp only [List.getElem?_toArray, List.getElem?_cons_zero]; rfl) rfl rfl (by kernel_rfl) (by kernel_rfl) (by kernel_rfl) (fun _ _ _ _ h => h) (by intro W hW; obtain ⟨hS1, hS2⟩ := hW; go_simp) hHeld ?_
      simp only [List.setIfInBounds_toArray, List.set_cons_zero, List.set_cons_succ]
      refine held_take 1 28 (.pointer (some ⟨ga, 1, none⟩)) (by simp only [List.getElem?_toArray, List.getElem?_cons_succ, List.getElem?_cons_zero]; rfl) rfl rfl (by kernel_rfl) (by kernel_rfl) (by kernel_rfl) (fun _ _ _ _ h => h) (by intro W hW; obtain ⟨hS1, hS2⟩ := hW; go_simp) hHeld ?_
      simp only [List.setIfInBounds_toArray, List.set_cons_zero, List.set_cons_succ]
      refine held_take 2 29 (.int .i64 x.at_) (by simp only [List.getElem?_toArray, List.getElem?_cons_succ, List.getElem?_cons_zero]; rfl) rfl rfl (by kernel_rfl) (by kernel_rfl) (by kernel_rfl) (fun _ _ _ _ h => h) (by intro W hW; obtain ⟨hS1, hS2⟩ := hW; go_simp) hHeld ?_
      simp only [List.setIfInBounds_toArray, List.set_cons_zero, List.set_cons_succ]
      refine held_take 3 30 (.agg (ca bb)) (by simp only [List.getElem?_toArray, List.getElem?_cons_succ, List.getElem?_cons_zero]; rfl) rfl rfl (by kernel_rfl) (by kernel_rfl) (by kernel_rfl) (fun _ _ _ _ h => h) (fun W hW => exec_loadR rfl rfl hW.1 HBB.out) hHeld ?_
      simp only [List.setIfInBounds_toArray, List.set_cons_zero, List.set_cons_succ]
      refine held_take 5 32 (.pointer (some ⟨h, 0, none⟩)) (by simp only [List.getElem?_toArray, List.getElem?_cons_succ, List.getElem?_cons_zero]; rfl) rfl rfl (by kernel_rfl) (by kernel_rfl) (by kernel_rfl) (fun _ _ _ _ h => h) (by intro W hW; obtain ⟨hS1, hS2⟩ := hW; go_simp) hHeld ?_
      simp only [List.setIfInBounds_toArray, List.set_cons_zero, List.set_cons_succ]
      refine held_take 6 33 (.pointer (some ⟨ga, 1, none⟩)) (by simp only [List.getElem?_toArray, List.getElem?_cons_succ, List.getElem?_cons_zero]; rfl) rfl rfl (by kernel_rfl) (by kernel_rfl) (by kernel_rfl) (fun _ _ _ _ h => h) (by intro W hW; obtain ⟨hS1, hS2⟩ := hW; go_simp) hHeld ?_
      simp only [List.setIfInBounds_toArray, List.set_cons_zero, List.set_cons_succ]
      refine held_take 7 34 (.int .i64 x.at_) (by simp only [List.getElem?_toArray, List.getElem?_cons_succ, List.getElem?_cons_zero]; rfl) rfl rfl (by kernel_rfl) (by kernel_rfl) (by kernel_rfl) (fun _ _ _ _ h => h) (by intro W hW; obtain ⟨hS1, hS2⟩ := hW; go_simp) hHeld ?_
      simp only [List.setIfInBounds_toArray, List.set_cons_zero, List.set_cons_succ]
      refine held_take 8 35 (.agg (ca bb)) (by simp only [List.getElem?_toArray, List.getElem?_cons_succ, List.getElem?_cons_zero]; rfl) rfl rfl (by kernel_rfl) (by kernel_rfl) (by kernel_rfl) (fun _ _ _ _ h => h) (fun W hW => exec_loadR rfl rfl hW.1 HBB.out) hHeld ?_
      simp only [List.setIfInBounds_toArray, List.set_cons_zero, List.set_cons_succ]
      refine held_call 4 31 8 #[.pointer (some ⟨g, 0, none⟩), .int .i64 x.at_, .agg (ca bb)] (by simp only [List.getElem?_toArray, List.getElem?_cons_succ, List.getElem?_cons_zero]; rfl) rfl rfl (by kernel_rfl) (by intro W; go_simp) ?_
      refine (write_any _ _ _ _ _ _ _ (HP.out.drewN 1).dk HBB.out hst).mono ?_
      rintro e w3 ⟨rfl, d3, C3⟩
      have C3 : Chg [g, b] wr.drew w3 := C3
      have hS3 := dw_S3 (w := wr.drew) hgb gsz.out HBL.out.1 HBB.out HX.out C3
      have R3 := Lib.hid ((HP.out.drewN 1).refAt C3 (by have := HP.out.lo; simp; omega))
      have D3 := Lib.hid d3
      refine ⟨_, rfl, hS3, ?_⟩
      have hHeld := hS3
      clear d3 hS3
      simp only [List.setIfInBounds_toArray, List.set_cons_zero, List.set_cons_succ]
      refine held_call 9 36 30 #[.pointer (some ⟨h, 0, none⟩), .int .i64 x.at_, .agg (ca bb)] (by simp only [List.getElem?_toArray, List.getElem?_cons_succ, List.getElem?_cons_zero]; rfl) rfl rfl (by kernel_rfl) (by intro W; go_simp) ?_
      refine (rwrite_any _ _ _ _ _ _ _ _ R3.out HBB.out hst).mono ?_
      rintro e w4 ⟨rfl, r4, C4⟩
      have hhi := HP.out.hi
      have hlo := HP.out.lo
      have B3 := C3.below (B := B) (by have := HB.out.size; have := HP.out.size; show B ≤ wr.heap.size; omega) (by simp; omega)
      have B4 := C4.below (B := B) (by have := B3.size; have := HP.out.size; have e : wr.drew.heap.size = wr.heap.size := rfl; omega) (by simp; omega)
      have hS4 : w4.rangeAt gb 0 (bc bb) ∧ w4.cell? ⟨ga, 1, none⟩ = some (.int .i64 x.at_) := by
        obtain ⟨a1, a2, a3, a4, a5, a6, a7⟩ := gsz.out
        have q1 := C3.blk (w := wr.drew) HBL.out.1 (by simp; omega)
        have q2 := C3.blk (w := wr.drew) HX.out (by simp; omega)
        exact ⟨BlAt.range ⟨C4.blk q1 (by simp; omega), HBB.out⟩, (C4.blk q2 (by simp; omega)).cell 1⟩
      refine ⟨_, rfl, hS4, ?_⟩
      have hHeld := hS4
      simp only [List.setIfInBounds_toArray, List.set_cons_zero, List.set_cons_succ]
      refine held_take 10 37 (.bool true) (by simp only [List.getElem?_toArray, List.getElem?_cons_succ, List.getElem?_cons_zero]; rfl) rfl rfl (by kernel_rfl) (by kernel_rfl) (by kernel_rfl) (fun _ _ _ _ h => h) (by intro W hW; go_simp) hHeld ?_
      simp only [List.setIfInBounds_toArray, List.set_cons_zero, List.set_cons_succ]
      refine held_take 11 6 (.bool true) (by simp only [List.getElem?_toArray, List.getElem?_cons_succ, List.getElem?_cons_zero]; rfl) rfl rfl (by kernel_rfl) (by kernel_rfl) (by kernel_rfl) (fun _ _ _ _ h => h) (by intro W hW; go_simp) hHeld ?_
      simp only [List.setIfInBounds_toArray, List.set_cons_zero, List.set_cons_succ]
      refine wpAnyH_done (by kernel_rfl) ?_ _
      go_wp2
      go_ret
      rw [HEB.out]
      exact ⟨rfl, ⟨DkAt.hiS HP.out D3.out C4 (by simp; omega), r4, hlo, hhi⟩, (HB.out.drew.trans B3).trans B4⟩
end Go.Proofs.Ytnbaamjdlgojaaa
