/- Walks: all lasts. -/
import Derived.Test.YtnbaamjdlgojaaaDkV
namespace Go.Proofs.Ytnbaamjdlgojaaa
open Go.RowKit

theorem barrier_nil (w : World) : Calls Try.prog 9 #[.pointer none] w fun e w' => e = .returned (.int .i64 1) ∧ w = w' := by
  go_enter Try.func9, Try.ntmps9
  go_wp2_with (go_at_call 22; refine (may_nil _ _).mono ?_; rintro e w' ⟨rfl, rfl⟩)
  go_ret
  exact ⟨rfl, rfl⟩
section
variable {ops : Array Oper} {rest : List Oper} {o : Oper} {a : Act} {Q : Exit → Act → World → Prop} {w : World}
/-- 'clear(m)'. -/
theorem wpList_mclear {α : Type} (hg : o.guard = none) (x : Operand) (t K E : TypeId) (hop : o.op = .call { callee := .builtin .clear, args := #[x], argTypes := #[t] }) (ht : Try.prog.underlying t = some (.map K E)) {q : IntKind}
    {enc : α → Value} {b : Nat} {m : List (Int × α)} (hm : MapOf w b q enc m) (hx : a.eval x = .map (some b))
    (h : ∀ w', MapOf w' b q enc ([] : List (Int × α)) → w.grownBy w' (some b) → w'.heap.size = w.heap.size → wpList Try.prog ops Q rest (a.put o.dst (.tuple #[])) w') : wpList Try.prog ops Q (o :: rest) a w := by
  refine wpList_plain hg fun K' hK' => ?_
  obtain ⟨es, clock, hb, hs, _⟩ := hm
  have hrun : (Builtin.clear_ #[t] o.type #[.map (some b)]).run Try.prog w = .ok (.tuple #[]) (Go.ChangeMaps.setBlock w b (.map #[] clock)) := by
    unfold Builtin.clear_
    simp [Sem.run_bind, run_underlying ht w, MapKept.run_getObj_map hb, MapKept.run_setObj_map _ hb, Result.andThen, Go.ChangeMaps.setBlock]
  unfold Oper.wp
  simp [execOp, hop, resolve, invoke, builtin, hx, hrun, Result.andThen]
  exact hK' _ _ (h _ ⟨#[], clock, (MapKept.heap_set hb).1, MapKept.stamped_empty clock, rfl⟩ (grown_setBlock hb) (by simp [Go.ChangeMaps.setBlock]))
end

/-- What is laid where, when all but the keys of 'left' have come. -/
def laidK (last : List Bl) (m : List (Int × Bl)) (left : List Int) : List Bl :=
  (List.range last.length).map fun i : Nat => if (i : Int) ∈ left then last.getD i [] else (mget m i).getD (last.getD i [])
theorem laidK_len (last : List Bl) (m : List (Int × Bl)) (left : List Int) : (laidK last m left).length = last.length := by simp [laidK]
theorem laidK_at {last : List Bl} {m : List (Int × Bl)} {left : List Int} {i : Nat} (h : i < last.length) : (laidK last m left)[i]? = some (if (i : Int) ∈ left then last.getD i [] else (mget m i).getD (last.getD i [])) := by
  simp [laidK, h]
theorem getD_lt {last : List Bl} {i : Nat} (h : i < last.length) : last[i]? = some (last.getD i []) := by rw [List.getD_eq_getElem?_getD, List.getElem?_eq_getElem h]; rfl
theorem laidK_start (last : List Bl) (m : List (Int × Bl)) : laidK last m (mkeys m) = last := by
  apply List.ext_getElem?
  intro i
  by_cases h : i < last.length
  · rw [laidK_at h, getD_lt h]
    by_cases hk : (i : Int) ∈ mkeys m
    · rw [if_pos hk]
    · rw [if_neg hk, mget_none.2 hk]; rfl
  · rw [List.getElem?_eq_none (by rw [laidK_len]; omega), List.getElem?_eq_none (by omega)]
theorem laidK_step {last : List Bl} {m : List (Int × Bl)} {left : List Int} {k : Nat} {v : Bl} (hn : left.Nodup) (hk : k < last.length) (hv : mget m k = some v) : (laidK last m left).set k v = laidK last m (left.erase k) := by
  apply List.ext_getElem?
  intro i
  by_cases h : i < last.length
  · rw [List.getElem?_set, laidK_at h, laidK_at h]
    by_cases e : k = i
    · subst e
      rw [if_pos rfl, if_pos (by rw [laidK_len]; exact h), if_neg (fun hm => by have := (hn.mem_erase_iff).1 hm; exact this.1 rfl), hv]; rfl
    · rw [if_neg e]
      have : ((i : Int) ∈ left.erase (k : Int)) ↔ (i : Int) ∈ left := List.mem_erase_of_ne (by omega)
      simp only [this]
  · rw [List.getElem?_eq_none (by simp [laidK_len]; omega), List.getElem?_eq_none (by rw [laidK_len]; omega)]
theorem laidK_ok {last : List Bl} {m : List (Int × Bl)} {left : List Int} (h1 : ∀ b ∈ last, okB b) (h2 : ∀ k b, mget m k = some b → okB b) : ∀ b ∈ laidK last m left, okB b := by
  intro b hb
  obtain ⟨i, hi, rfl⟩ := List.mem_map.1 hb
  have hi' := List.mem_range.1 hi
  have hl := h1 _ (List.mem_of_getElem? (getD_lt hi'))
  split
  · exact hl
  · cases hg : mget m i with
    | none => exact hl
    | some v => exact h2 _ _ hg
theorem barriered_ok {s : DS} (h : DsOk s) : DsOk { ticked s with cache := [], last := laidK s.last s.cache [] } := by
  refine ⟨by simp only [laidK_len]; exact h.lo, by simp only [laidK_len]; exact h.hi, (fun k hk => by simp [mkeys] at hk), by simp [mkeys], (fun k b hb => by simp [mget] at hb), laidK_ok h.last h.bls, ?_⟩
  have := h.fuse
  unfold ticked
  split
  · simpa using this
  · simp only; split <;> omega
def barrierN (s : DS) : Int := if s.down then 13 else tickN s
def barriered (s : DS) : DS := if s.down then s else if s.fuse = 0 then ticked s else { ticked s with cache := [], last := laidK s.last s.cache [] }
theorem may_zero {s : DS} (h : DsOk s) : mayN s 0 = if s.down then 13 else 0 := by
  unfold mayN
  have := h.lo
  split
  · rfl
  · rw [if_neg (by omega)]
set_option maxRecDepth 100000 in
set_option maxHeartbeats 2000000 in
theorem barrier_any (g b l : Nat) (s : DS) (w : World) (h : DkAt w g b l s) (hst : 0 ≤ s.steps ∧ s.steps ≤ 1000000) :
    Calls Try.prog 9 #[.pointer (some ⟨g, 0, none⟩)] w fun e w' => e = .returned (.int .i64 (barrierN s)) ∧ DkAt w' g b l (barriered s) ∧ Chg [g, b, l] w w' := by
  have hm := may_zero h.ok
  cases hd : s.down
  · rw [hd] at hm
    simp only [Bool.false_eq_true, if_false] at hm
    have hm' : (mayN s 0 != 0) = false := by simp [hm]
    have HD := Lib.hid hd
    have HDK := Lib.hid h
    have HM := Lib.hid hm
    clear hm hd h
    by_cases hf : s.fuse = 0
    · have ht' : (tickN s != 0) = true := by simp [tickN, hf]
      have HF := Lib.hid hf
      clear hf
      go_enter Try.func9, Try.ntmps9
      go_wp2_with (first | (go_at_call 22; refine (may_any _ _ _ _ _ _ HDK.out).mono ?_; rintro e w' ⟨rfl, rfl⟩) | (go_at_call 23; refine (tick_any _ _ _ _ _ HDK.out hst).mono ?_; rintro e w1 ⟨rfl, k1, k2⟩))
      go_ret
      refine ⟨ret_int (by unfold barrierN; rw [HD.out]; rfl), ?_, k2.more (by simp)⟩
      unfold barriered; rw [HD.out, if_neg (by simp), if_pos HF.out]
      exact ticked_ok HDK.out k1 k2
    · have ht' : (tickN s != 0) = false := by simp [tickN, hf]
      have HF := Lib.hid hf
      clear hf
      go_enter Try.func9, Try.ntmps9
      go_wp2_with (first
        | (go_at_call 22; refine (may_any _ _ _ _ _ _ HDK.out).mono ?_; rintro e w' ⟨rfl, rfl⟩)
        | (go_at_call 23; refine (tick_any _ _ _ _ _ HDK.out hst).mono ?_; rintro e w1 ⟨rfl, k1, k2⟩; have hd := ticked_ok HDK.out k1 k2; obtain ⟨c0, c1, c2, c3, c4⟩ := hd.c)
        | (at_range; refine wpList_mrange rfl (.tmp 22) 57 3 33 rfl Try.underlying57 hd.cache rfl ?_; intro w2 i1 i2 i3))
      obtain ⟨n1, n2, n3⟩ := hd.ne
      have hrb : w.heap.size ≤ w1.heap.size := k2.size
      have hgw := HDK.out.head.lt
      have hbw := HDK.out.cache.lt
      have hlw := HDK.out.last.1.lt
      have j1 : Blk w2 g 59 (dkCells (ticked s) b l) := (i2.block g (by omega) (by simp)).trans hd.head
      have j2 : LastAt w2 l s.last := by have := hd.last.keep (i2.block l (by omega) (by simp)); rwa [ticked_last] at this
      rw [ticked_cache] at i1
      have j3 : Chg [g, b, l] w w2 := (k2.more (by simp)).grown i2 (by simp)
      have hok := Lib.hid HDK.out.ok
      have J1 := Lib.hid j1
      have J2 := Lib.hid j2
      have J3 := Lib.hid j3
      have I1 := Lib.hid i1
      have hbm : b ≠ w1.heap.size := by omega
      clear hd c0 c1 c2 c3 c4 k1 k2 i1 i2 i3 j1 j2 j3 ht'
      generalize w1.heap.size = rb at *
      go_frame
      go_loopg [] ((mkeys s.cache).length + 1) (fun m wr => ∃ left : List Int, left.length < m ∧ Hid (left.Nodup ∧ ∀ k ∈ left, k ∈ mkeys s.cache) ∧ Iter wr b rb .i64 encB s.cache left ∧ Blk wr g 59 (dkCells (ticked s) b l) ∧ LastAt wr l (laidK s.last s.cache left) ∧ Chg [g, b, l] w wr)
      case atStart => exact ⟨_, by omega, ⟨hok.out.nodup, fun k hk => hk⟩, I1.out, J1.out, by rw [laidK_start]; exact J2.out, J3.out⟩
      case round =>
        clear J1 J2 J3 I1
        obtain ⟨left, hll, HND, hI, hh, hL, hC⟩ := hrel
        have c4 : wr.cell? ⟨g, 4, none⟩ = some (.slice (some ⟨l, 0, none⟩) (ticked s).last.length (ticked s).last.length) := hh.cell 4
        rw [ticked_last] at c4
        have c3 : wr.cell? ⟨g, 3, none⟩ = some (.map (some b)) := hh.cell 3
        have hgl := hh.lt
        have HI := Lib.hid hI
        have HH := Lib.hid hh
        have HL := Lib.hid hL
        have HC := Lib.hid hC
        have hlo := hok.out.lo
        have hhi := hok.out.hi
        have hz := zeroB
        have hkey : Hid (∀ y ∈ left, ∃ kk : Nat, y = kk ∧ kk < s.last.length) := fun y hy => by
          have := hok.out.keys y (HND.out.2 y hy)
          exact ⟨y.toNat, by omega, by omega⟩
        clear hI hh hL hC
        go_wp2_with (first
          | (at_next; refine wpList_mnext rfl (.tmp 23) rfl HI.out rfl (fun h0 => ?_) (fun y v w3 m1 m2 m3 m4 m5 m6 hen => ?_); rotate_left; (obtain ⟨kk, rfl, hk1⟩ := hkey.out y m1; simp only [encB] at hen ⊢; have hC3 := Lib.hid (HC.out.grown m5 (by intro g' e; cases e; exact .inr hrb)); have hH3 := HH.out.grown m5 (by simp; omega); have d4 : w3.cell? ⟨g, 4, none⟩ = some (.slice (some ⟨l, 0, none⟩) (ticked s).last.length (ticked s).last.length) := hH3.cell 4; rw [ticked_last] at d4; have hg3 := hH3.lt; have hL3 := Lib.hid (HL.out.keep (m5.block l HL.out.1.lt (by simp; omega))); have M4 := Lib.hid m4; have F0 := Lib.hid (BlAt.fresh w3); have M6 := Lib.hid m6; have M3 := Lib.hid m3; clear m4 m6 m3); rotate_left)
          | ((with_reducible refine wpList_mclear (q := .i64) (enc := encB) (m := s.cache) ?_ (.tmp 39) 57 3 33 ?_ ?_ HI.out.map ?_ ?_); rfl; rfl; exact Try.underlying57; rfl; intro w4 q1 q2 q3)
          | ((with_reducible refine wpList_storeB (o := ⟨none, .store _ (.tmp 6) _, _, _, _, _⟩) ?_ (.tmp 6) (.tmp 28) ?_ w3.heap.size zB v ?_ ?_ F0.out (hok.out.bls _ _ M3.out) ?_); rfl; rfl; rfl; rfl; intro w4 q1 q2 q3))
        · subst h0
          go_ret
          have hH4 := (q2.block g HH.out.lt (by simp; exact n1)).trans HH.out
          have hL4 := HL.out.keep (q2.block l HL.out.1.lt (by simp; exact Ne.symm n3))
          refine ⟨ret_int (by unfold barrierN; rw [HD.out]; unfold tickN; rw [if_neg (by simp), if_neg HF.out]), ?_, HC.out.grown q2 (by simp)⟩
          unfold barriered; rw [HD.out, if_neg (by simp), if_neg HF.out]
          refine ⟨?_, q1, hL4, barriered_ok hok.out⟩
          have e1 : dkCells { ticked s with cache := [], last := laidK s.last s.cache [] } b l = dkCells (ticked s) b l := by
            unfold dkCells; simp only [laidK_len, ticked_last]
          rw [e1]; exact hH4
        · have hH4 := q2.blk (hH3.alloc (.cells (ca zB) 33)) (by simp; omega)
          have hL4 := q2.last (hL3.out.keep (Below.heap_alloc _ _ _ hL3.out.1.lt)) (by have := hL3.out.1.lt; simp; omega)
          have d5 : w4.cell? ⟨g, 4, none⟩ = some (.slice (some ⟨l, 0, none⟩) (ticked s).last.length (ticked s).last.length) := hH4.cell 4
          rw [ticked_last] at d5
          have hg4 := hH4.lt
          have hvo := hok.out.bls _ _ M3.out
          go_still_tail 7, (by kernel_rfl)
          refine wpStill_loadMid rfl (.tmp 6) rfl w3.heap.size 0 v rfl q1.range hvo ?_
          repeat still_step
          refine wpStill_nil ?_
          change wpList _ _ _ _ _ w4.drew
          have hL5 : LastAt w4.drew l (laidK s.last s.cache left) := hL4
          go_wp2_with (first
            | ((with_reducible refine wpList_storeAt (o := ⟨none, .store _ _ _, _, _, _, _⟩) ?_ (.tmp 35) (.tmp 34) ?_ l kk (laidK s.last s.cache left) v ?_ ?_ hL5 ?_ hvo ?_); rfl; rfl; simp [Act.eval]; rfl; rw [laidK_len]; exact hk1; intro w5 p1 p2 p3))
          go_roundg left.length
          case rel =>
            have hIb := M4.out.map.lt
            have hIr := M4.out.lt.1
            have hm1 : (kk : Int) ∈ left := m1
            have I4 := (M4.out.alloc (.cells (ca zB) 33)).blocks (q2.block b (by simp; omega) (by simp; omega)) (q2.block rb (by simp; omega) (by simp; omega))
            have I5 := I4.blocks (p2.block b (Nat.lt_of_lt_of_le hIb (by have := q2.size; simp at this; exact Nat.le_of_succ_le this)) (by simp; omega)) (p2.block rb (Nat.lt_of_lt_of_le hIr (by have := q2.size; simp at this; exact Nat.le_of_succ_le this)) (by simp; omega))
            have hlen : (left.erase (kk : Int)).length < left.length := by rw [List.length_erase_of_mem hm1]; have := List.length_pos_of_mem hm1; omega
            refine ⟨left.erase kk, hlen, ⟨HND.out.1.erase _, fun k hk => HND.out.2 k (List.mem_of_mem_erase hk)⟩, I5, ?_, ?_, ?_⟩
            · exact p2.blk (w := w4.drew) hH4 (by simp; exact n2)
            · have := p1; rwa [laidK_step HND.out.1 hk1 M3.out] at this
            · refine Chg.trans (w' := w4.drew) ?_ (p2.more (by simp))
              have z := ((hC3.out.alloc (.cells (ca zB) 33)).more (S' := [g, b, l, w3.heap.size]) (fun k hk => by simp at hk ⊢; omega)).trans ((q2.more (S' := [g, b, l, w3.heap.size]) (fun k hk => by simp at hk ⊢; omega)).drew)
              have hs3 := hC3.out.size
              exact z.more (fun k hk => by simp at hk ⊢; omega)
          case measure => exact hll
  · have hm' : (mayN s 0 != 0) = true := by rw [hm, hd]; rfl
    have HD := Lib.hid hd
    have HDK := Lib.hid h
    have HM := Lib.hid hm
    clear hm hd h
    go_enter Try.func9, Try.ntmps9
    go_wp2_with (go_at_call 22; refine (may_any _ _ _ _ _ _ HDK.out).mono ?_; rintro e w' ⟨rfl, rfl⟩)
    go_ret
    exact ⟨ret_int (by unfold barrierN; rw [HM.out, HD.out]; rfl), by unfold barriered; rw [if_pos HD.out]; exact HDK.out, Chg.refl _ _⟩
end Go.Proofs.Ytnbaamjdlgojaaa
