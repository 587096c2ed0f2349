/- Walks: a sector written. -/
import Derived.Test.YtnbaamjdlgojaaaDkR
namespace Go.Proofs.Ytnbaamjdlgojaaa
open Go.RowKit

section
variable {ops : Array Oper} {rest : List Oper} {o : Oper} {a : Act} {Q : Act → Prop} {w : World}
/-- A block is loaded, in a region that draws its order. -/
theorem wpStill_loadMid (hg : o.guard = none) (x : Operand) (ho : o.op = .load 33 x) (g i : Nat) (b : Bl) (hx : a.eval x = .pointer (some ⟨g, i, none⟩)) (hc : w.rangeAt g i (bc b)) (hb : okB b)
    (h : wpStill Try.prog ops w Q rest (a.put o.dst (.agg (ca b)))) : wpStill Try.prog ops w Q (o :: rest) a := by
  refine wpStill_step fun K hK => ?_
  rw [if_pos (by simp [Region.wanted, hg])]
  unfold Oper.still execOp
  simp only [ho, hx, Instr.loadAt, Instr.sureAddr, Sem.run_bind, Sem.run_pure, Result.andThen_ok, run_loadVar_mid w g i 33 (bc b) _ hc Try.underlying33 rfl (infoBl hb)]
  exact ⟨rfl, hK _ h⟩
theorem wpStill_look {α : Type} (hg : o.guard = none) (x k : Operand) (t K E : TypeId) (hop : o.op = Op.lookup t x k false) (ht : Try.prog.underlying t = some (.map K E)) {q : IntKind} (hK : Try.prog.underlying K = some (.int q))
    {z : Value} (hz : ∀ W, (zeroValue E).run Try.prog W = .ok z W) {enc : α → Value} {b : Nat} {m : List (Int × α)} (key : Int) (hm : MapOf w b q enc m) (hx : a.eval x = .map (some b)) (hk : a.eval k = .int q key)
    (h : wpStill Try.prog ops w Q rest (a.put o.dst (((mget m key).map enc).getD z))) : wpStill Try.prog ops w Q (o :: rest) a := by
  refine wpStill_step fun K' hK' => ?_
  have hrun := hm.lookup ht hK (hz w) key
  rw [if_pos (by simp [Region.wanted, hg])]
  unfold Oper.still execOp
  simp [hop, hx, hk, hrun, Result.andThen]
  exact ⟨rfl, hK' _ h⟩
end
theorem write_nil (n : Int) (bb : Bl) (w : World) : Calls Try.prog 8 #[.pointer none, .int .i64 n, .agg (ca bb)] w fun e w' => e = .returned (.int .i64 1) ∧ Below w.heap.size w w' := by
  have hB := Lib.hid ((Below.refl w.heap.size w).alloc (Nat.le_refl _) (.cells (ca bb) 33))
  go_enter Try.func8, Try.ntmps8
  go_wp2_with (go_at_call 22; refine (may_nil _ _).mono ?_; rintro e w' ⟨rfl, rfl⟩)
  go_ret
  exact ⟨rfl, hB.out⟩
theorem ticked_cache (s : DS) : (ticked s).cache = s.cache := by unfold ticked; split <;> rfl
theorem ticked_last (s : DS) : (ticked s).last = s.last := by unfold ticked; split <;> rfl
theorem DkAt.put {w w' : World} {g b l : Nat} {s : DS} {n : Int} {bb : Bl} (h : DkAt w g b l s) (hm : MapOf w' b .i64 encB (mput s.cache n bb)) (hg : w.grownBy w' (some b)) (hn : 0 ≤ n ∧ n < (s.last.length : Int)) (hb : okB bb) : DkAt w' g b l { s with cache := mput s.cache n bb } := by
  obtain ⟨n1, n2, n3⟩ := h.ne
  obtain ⟨a1, a2, a3, a4, a5, a6, a7⟩ := h.ok
  refine ⟨(hg.block g h.head.lt (by simp; exact n1)).trans h.head, hm, h.last.keep (hg.block l h.last.1.lt (by simp; exact Ne.symm n3)), ⟨a1, a2, fun k hk => ?_, nodup_mput a4 n bb, fun k c hk => ?_, a6, a7⟩⟩
  · rw [mkeys_mput] at hk
    split at hk
    · exact a3 k hk
    · rcases List.mem_append.1 hk with e | e
      · exact a3 k e
      · have := List.mem_singleton.1 e; subst this; exact hn
  · simp only [mget_mput] at hk
    split at hk
    · injection hk with hk; subst hk; exact hb
    · exact a5 k c hk
def writeN (s : DS) (n : Int) : Int := if mayN s n = 0 then tickN s else mayN s n
def wrote (s : DS) (n : Int) (bb : Bl) : DS := if mayN s n = 0 then if s.fuse = 0 then ticked s else { ticked s with cache := mput s.cache n bb } else s
set_option maxRecDepth 100000 in
set_option maxHeartbeats 1000000 in
theorem write_any (g b l : Nat) (s : DS) (n : Int) (bb : Bl) (w : World) (h : DkAt w g b l s) (hbb : okB bb) (hst : 0 ≤ s.steps ∧ s.steps ≤ 1000000) :
    Calls Try.prog 8 #[.pointer (some ⟨g, 0, none⟩), .int .i64 n, .agg (ca bb)] w fun e w' => e = .returned (.int .i64 (writeN s n)) ∧ DkAt w' g b l (wrote s n bb) ∧ Chg [g, b] w w' := by
  have hB := (Below.refl w.heap.size w).alloc (Nat.le_refl _) (.cells (ca bb) 33)
  have HB := Lib.hid hB
  have HD := Lib.hid (h.below hB)
  have H0 : Hid (BlAt (w.alloc (.cells (ca bb) 33)) w.heap.size bb) := ⟨Blk.new w _ _, hbb⟩
  have hgl := h.head.lt
  have hbl := h.cache.lt
  by_cases hm : mayN s n = 0
  · have hm' : (mayN s n != 0) = false := by simp [hm]
    have HM := Lib.hid hm
    have hn : 0 ≤ n ∧ n < (s.last.length : Int) := by
      unfold mayN at hm
      split at hm
      · omega
      · split at hm <;> omega
    have HN := Lib.hid hn
    clear hm hB h hn
    by_cases hf : s.fuse = 0
    · have ht' : (tickN s != 0) = true := by simp [tickN, hf]
      have HF := Lib.hid hf
      clear hf
      go_enter Try.func8, Try.ntmps8
      go_wp2_with (first | (go_at_call 22; refine (may_any _ _ _ _ _ _ HD.out).mono ?_; rintro e w' ⟨rfl, rfl⟩) | (go_at_call 23; refine (tick_any _ _ _ _ _ HD.out hst).mono ?_; rintro e w1 ⟨rfl, k1, k2⟩))
      go_ret
      refine ⟨ret_int (by unfold writeN; rw [if_pos HM.out]), ?_, (((Chg.of_below HB.out [g, b])).trans (k2.more (by simp)))⟩
      unfold wrote; rw [if_pos HM.out, if_pos HF.out]
      exact ticked_ok HD.out k1 k2
    · have ht' : (tickN s != 0) = false := by simp [tickN, hf]
      have HF := Lib.hid hf
      clear hf
      go_enter Try.func8, Try.ntmps8
      go_wp2_with (first | (go_at_call 22; refine (may_any _ _ _ _ _ _ HD.out).mono ?_; rintro e w' ⟨rfl, rfl⟩) | (go_at_call 23; refine (tick_any _ _ _ _ _ HD.out hst).mono ?_; rintro e w1 ⟨rfl, k1, k2⟩))
      have hd := ticked_ok HD.out k1 k2
      obtain ⟨c0, c1, c2, c3, c4⟩ := hd.c
      have h0 : BlAt w1 w.heap.size bb := ⟨k2.blk H0.out.1 (by simp; omega), hbb⟩
      have hl := run_loadB h0
      go_still_tail 6, (by kernel_rfl)
      refine wpStill_loadMid rfl (.tmp 5) rfl w.heap.size 0 bb rfl h0.range hbb ?_
      repeat still_step
      refine wpStill_nil ?_
      change wpList _ _ _ _ _ w1.drew
      have hdd := hd.drewN 1
      have ec := ticked_cache s
      have el := ticked_last s
      have HC := Lib.hid ec
      have HL := Lib.hid el
      clear ec el
      go_wp2_with (first | (at_mapUpdate; refine wpList_mput rfl (.tmp 25) (.tmp 26) (.tmp 27) 57 3 33 rfl Try.underlying57 Try.underlying3 n bb hdd.cache rfl rfl rfl ?_; intro w3 m1 m2 m3))
      go_ret
      have hp := DkAt.put (s := ticked s) hdd m1 m2 (by rw [HL.out]; exact HN.out) hbb
      have z1 : Chg [g, b] w w1 := (Chg.of_below HB.out [g, b]).trans (k2.more (by simp))
      refine ⟨ret_int (by unfold writeN; rw [if_pos HM.out]; unfold tickN; rw [if_neg HF.out]), ?_, z1.drew.grown m2 (by simp)⟩
      unfold wrote; rw [if_pos HM.out, if_neg HF.out]
      rw [HC.out] at hp
      exact hp
  · have hm' : (mayN s n != 0) = true := by simp [hm]
    have HM := Lib.hid hm
    clear hm hB h
    go_enter Try.func8, Try.ntmps8
    go_wp2_with (first | (go_at_call 22; refine (may_any _ _ _ _ _ _ HD.out).mono ?_; rintro e w' ⟨rfl, rfl⟩))
    go_ret
    refine ⟨ret_int (by unfold writeN; rw [if_neg HM.out]), ?_, Chg.of_below HB.out [g, b]⟩
    unfold wrote; rw [if_neg HM.out]; exact HD.out
end Go.Proofs.Ytnbaamjdlgojaaa
