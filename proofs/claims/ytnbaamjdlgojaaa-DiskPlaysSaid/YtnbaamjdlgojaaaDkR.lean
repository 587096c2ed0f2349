/- Walks: a sector read. -/
import Derived.Test.YtnbaamjdlgojaaaDkY
namespace Go.Proofs.Ytnbaamjdlgojaaa
open Go.RowKit

theorem readB_ok {s : DS} (h : DsOk s) (n : Int) : okB (readB s n) := by
  unfold readB
  split
  · rename_i hm
    unfold mayN at hm
    cases hd : s.down
    · rw [hd] at hm
      simp only [Bool.false_eq_true, if_false] at hm
      split at hm
      · omega
      · rename_i h1
        cases hg : mget s.cache n with
        | some b => exact h.bls n b hg
        | none =>
          simp only [Option.getD_none]
          rw [List.getD_eq_getElem?_getD, List.getElem?_eq_getElem (by omega)]
          exact h.last _ (List.getElem_mem _)
    · rw [hd] at hm; simp at hm
  · exact zB_ok
set_option maxRecDepth 100000 in
set_option maxHeartbeats 1000000 in
theorem read_any (g b l : Nat) (s : DS) (n : Int) (w : World) (h : DkAt w g b l s) : Calls Try.prog 13 #[.pointer (some ⟨g, 0, none⟩), .int .i64 n] w fun e w' => e = .returned (.tuple #[.agg (ca (readB s n)), .int .i64 (mayN s n)]) ∧ Below w.heap.size w w' := by
  have hz := zeroB
  have hbd := buildB
  have hB := (Below.refl w.heap.size w).alloc (Nat.le_refl _) (.cells (ca zB) 33)
  have H0 := Lib.hid (BlAt.fresh w)
  have HB := Lib.hid hB
  have HD := Lib.hid (h.below hB)
  have hok := Lib.hid (readB_ok h.ok n)
  obtain ⟨c0, c1, c2, c3, c4⟩ := h.c
  have hgl := h.head.lt
  have hlo := h.ok.lo
  have hhi := h.ok.hi
  by_cases hm : mayN s n = 0
  · have hm' : (mayN s n != 0) = false := by simp [hm]
    have HM := Lib.hid hm
    have HE : Hid (readB s n = (mget s.cache n).getD (s.last.getD n.toNat [])) := by show _ = _; unfold readB; rw [if_pos hm]
    have hn : 0 ≤ n ∧ n < (s.last.length : Int) := by
      unfold mayN at hm
      split at hm
      · omega
      · split at hm <;> omega
    obtain ⟨hn1, hn2⟩ := hn
    clear hm hB h
    have hB2 := (Below.refl (w.heap.size + 1) (w.alloc (.cells (ca zB) 33))).alloc (by simp) (.cells (ca zB) 33)
    have H02 : Hid (BlAt ((w.alloc (.cells (ca zB) 33)).alloc (.cells (ca zB) 33)) w.heap.size zB) := ⟨H0.out.1.alloc _, zB_ok⟩
    have H1 : Hid (BlAt ((w.alloc (.cells (ca zB) 33)).alloc (.cells (ca zB) 33)) (w.heap.size + 1) zB) := by have := BlAt.fresh (w.alloc (.cells (ca zB) 33)); rw [World.size_alloc] at this; exact this
    have HD2 := Lib.hid (HD.out.below ((Below.refl _ (w.alloc (.cells (ca zB) 33))).alloc (Nat.le_refl _) (.cells (ca zB) 33)))
    have HBB := Lib.hid (HB.out.alloc (by simp) (.cells (ca zB) 33))
    clear hB2
    cases hg : mget s.cache n with
    | some bb =>
      have hbb := HD.out.ok.bls n bb hg
      have HG := Lib.hid hg
      have HE2 : Hid (readB s n = bb) := by show _ = _; rw [HE.out, hg]; rfl
      clear HE
      have e1 : (mget s.cache n).isSome = true := by rw [hg]; rfl
      have e2 : ((mget s.cache n).map encB).getD (.agg (ca zB)) = .agg (ca bb) := by rw [hg]; rfl
      clear hg
      go_enter Try.func13, Try.ntmps13
      go_wp2_with (first
        | (go_at_call 22; refine (may_any _ _ _ _ _ _ HD.out).mono ?_; rintro e w' ⟨rfl, rfl⟩)
        | (at_lookup; refine wpList_mlookOk rfl (.tmp 20) (.tmp 21) 57 3 33 rfl Try.underlying57 Try.underlying3 zeroB n HD.out.cache rfl rfl ?_; rw [e1, e2])
        | ((with_reducible refine wpList_storeB (o := ⟨none, .store _ (.tmp 7) _, _, _, _, _⟩) ?_ (.tmp 7) (.tmp 23) ?_ (w.heap.size + 1) zB bb ?_ ?_ H1.out hbb ?_); rfl; rfl; rfl; rfl; intro w1 k1 k2 k3)
        | ((with_reducible refine wpList_loadB (o := ⟨some 26, _, _, _, _, _⟩) ?_ (.tmp 7) ?_ (w.heap.size + 1) bb ?_ k1 ?_); rfl; rfl; rfl)
        | ((with_reducible refine wpList_storeB (o := ⟨none, .store _ (.tmp 4) _, _, _, _, _⟩) ?_ (.tmp 4) (.tmp 26) ?_ w.heap.size zB bb ?_ ?_ ?_ hbb ?_); rfl; rfl; rfl; rfl; exact ⟨k2.blk H02.out.1 (by simp), zB_ok⟩; intro w2 k4 k5 k6))
      have hl := run_loadB k4
      have z1 : Below w.heap.size w w1 := HBB.out.trans (k2.below (by simp; omega) (by simp))
      have z2 : Below w.heap.size w w2 := z1.trans (k5.below z1.size (by simp))
      refine bodyPost_ret (v := .tuple #[.agg (ca bb), .int .i64 0]) (by simp [results, Try.results13, asAddr, hl]) rfl ⟨by rw [HE2.out, HM.out], z2⟩
    | none =>
      have hi : n.toNat < s.last.length := by omega
      have hll : s.last[n.toNat]? = some (s.last.getD n.toNat []) := by rw [List.getD_eq_getElem?_getD, List.getElem?_eq_getElem hi]; rfl
      have HE2 : Hid (readB s n = s.last.getD n.toNat []) := by show _ = _; rw [HE.out, hg]; rfl
      have hbb := HD.out.ok.last _ (List.mem_of_getElem? hll)
      generalize s.last.getD n.toNat [] = bb at hll HE2 hbb
      obtain ⟨m, rfl⟩ : ∃ m : Nat, n = m := ⟨n.toNat, by omega⟩
      rw [Int.toNat_natCast] at hll
      have HL := Lib.hid hll
      clear HE hll hi
      have e1 : (mget s.cache (m : Int)).isSome = false := by rw [hg]; rfl
      have e2 : ((mget s.cache (m : Int)).map encB).getD (.agg (ca zB)) = .agg (ca zB) := by rw [hg]; rfl
      clear hg
      go_enter Try.func13, Try.ntmps13
      go_wp2_with (first
        | (go_at_call 22; refine (may_any _ _ _ _ _ _ HD.out).mono ?_; rintro e w' ⟨rfl, rfl⟩)
        | (at_lookup; refine wpList_mlookOk rfl (.tmp 20) (.tmp 21) 57 3 33 rfl Try.underlying57 Try.underlying3 zeroB (m : Int) HD.out.cache rfl rfl ?_; rw [e1, e2])
        | ((with_reducible refine wpList_storeB (o := ⟨none, .store _ (.tmp 7) _, _, _, _, _⟩) ?_ (.tmp 7) (.tmp 23) ?_ (w.heap.size + 1) zB zB ?_ ?_ H1.out zB_ok ?_); rfl; rfl; rfl; rfl; intro w1 k1 k2 k3; have k7 := HD2.out.keep k2 (by simp; omega) (by have := HD.out.cache.lt; simp at this ⊢; omega) (by have := HD.out.last.1.lt; simp at this ⊢; omega); obtain ⟨c0, c1, c2, c3, c4⟩ := k7.c)
        | ((with_reducible refine wpList_loadAt (o := ⟨some 33, _, _, _, _, _⟩) ?_ (.tmp 32) ?_ l m s.last bb ?_ k7.last HL.out ?_); rfl; rfl; simp [Act.eval])
        | ((with_reducible refine wpList_storeB (o := ⟨none, .store _ (.tmp 4) _, _, _, _, _⟩) ?_ (.tmp 4) (.tmp 33) ?_ w.heap.size zB bb ?_ ?_ ?_ hbb ?_); rfl; rfl; rfl; rfl; exact ⟨k2.blk H02.out.1 (by simp), zB_ok⟩; intro w2 k4 k5 k6))
      have hl := run_loadB k4
      have z1 : Below w.heap.size w w1 := HBB.out.trans (k2.below (by simp; omega) (by simp))
      have z2 : Below w.heap.size w w2 := z1.trans (k5.below z1.size (by simp))
      refine bodyPost_ret (v := .tuple #[.agg (ca bb), .int .i64 0]) (by simp [results, Try.results13, asAddr, hl]) rfl ⟨by rw [HE2.out, HM.out], z2⟩
  · have hm' : (mayN s n != 0) = true := by simp [hm]
    have HE : Hid (readB s n = zB) := by show _ = _; unfold readB; rw [if_neg hm]
    have HM := Lib.hid hm
    clear hm hB h
    go_enter Try.func13, Try.ntmps13
    go_wp2_with (first
      | (go_at_call 22; refine (may_any _ _ _ _ _ _ HD.out).mono ?_; rintro e w' ⟨rfl, rfl⟩)
      | ((with_reducible refine wpList_storeB (o := ⟨none, .store _ (.tmp 4) _, _, _, _, _⟩) ?_ (.tmp 4) (.tmp 14) ?_ w.heap.size zB zB ?_ ?_ H0.out zB_ok ?_); rfl; rfl; rfl; rfl; intro w1 k1 k2 k3))
    have hl := run_loadB k1
    refine bodyPost_ret (v := .tuple #[.agg (ca zB), .int .i64 (mayN s n)]) (by simp [results, Try.results13, asAddr, hl]) rfl ⟨by rw [HE.out], HB.out.trans (k2.below (by simp) (by simp))⟩
end Go.Proofs.Ytnbaamjdlgojaaa
