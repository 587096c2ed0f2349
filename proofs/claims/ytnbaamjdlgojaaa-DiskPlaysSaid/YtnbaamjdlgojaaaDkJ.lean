/- Walks: the reference's list of those that wait. -/
import Derived.Test.YtnbaamjdlgojaaaDkI
import Derived.Test.YtnbaamjdlgojaaaDkP
import Derived.Test.YtnbaamjdlgojaaaOwnI
namespace Go.Proofs.Ytnbaamjdlgojaaa
open Go.RowKit

def listTo (s : DS) (k : Nat) : List Int := (upTo k).filter fun i => decide (i ∈ mkeys s.cache)
theorem listTo_len (s : DS) (k : Nat) : (listTo s k).length ≤ k := by
  unfold listTo
  refine Nat.le_trans (List.length_filter_le _ _) ?_
  simp [upTo]
theorem listTo_yes {s : DS} {k : Nat} (h : (k : Int) ∈ mkeys s.cache) : listTo s (k + 1) = listTo s k ++ [(k : Int)] := by
  unfold listTo; rw [upTo_succ, List.filter_append]; simp [h]
theorem listTo_no {s : DS} {k : Nat} (h : (k : Int) ∉ mkeys s.cache) : listTo s (k + 1) = listTo s k := by
  unfold listTo; rw [upTo_succ, List.filter_append]; simp [h]
theorem upTo_sorted : ∀ k, (upTo k).Pairwise (· < ·)
  | 0 => List.Pairwise.nil
  | k + 1 => by
    rw [upTo_succ, List.pairwise_append]
    exact ⟨upTo_sorted k, by simp, fun a ha b hb => by have := (mem_upTo.1 ha).2; simp at hb; omega⟩
theorem sorted_eq : ∀ {l l' : List Int}, l.Pairwise (· < ·) → l'.Pairwise (· < ·) → (∀ x, x ∈ l ↔ x ∈ l') → l = l'
  | [], [], _, _, _ => rfl
  | [], b :: l', _, _, h => by have := (h b).2 List.mem_cons_self; simp at this
  | a :: l, [], _, _, h => by have := (h a).1 List.mem_cons_self; simp at this
  | a :: l, b :: l', h1, h2, h => by
    have p1 := List.pairwise_cons.1 h1
    have p2 := List.pairwise_cons.1 h2
    have e : a = b := by
      rcases List.mem_cons.1 ((h a).1 List.mem_cons_self) with e | e
      · exact e
      · rcases List.mem_cons.1 ((h b).2 List.mem_cons_self) with e' | e'
        · exact e'.symm
        · have := p1.1 b e'; have := p2.1 a e; omega
    subst e
    rw [sorted_eq p1.2 p2.2 fun x => ?_]
    have := h x
    simp only [List.mem_cons] at this
    constructor
    · intro hx
      rcases this.1 (.inr hx) with e | e
      · have := p1.1 x hx; omega
      · exact e
    · intro hx
      rcases this.2 (.inr hx) with e | e
      · have := p2.1 x hx; omega
      · exact e
theorem waitL_eq {s : DS} (h : DsOk s) : waitL s = listTo s s.last.length := by
  refine sorted_eq ?_ ?_ fun x => ?_
  · have h1 : (waitL s).Pairwise fun a b => decide (a ≤ b) = true := List.pairwise_mergeSort (fun a b c h1 h2 => by simp at *; omega) (fun a b => by simp; omega) _
    have h2 : (waitL s).Nodup := (List.mergeSort_perm _ _).nodup_iff.2 h.nodup
    refine (h1.and h2).imp fun {a b} h => ?_
    obtain ⟨p1, p2⟩ := h
    simp at p1
    omega
  · exact (upTo_sorted _).filter _
  · rw [waitL_mem]
    unfold listTo
    simp only [List.mem_filter, mem_upTo, decide_eq_true_eq]
    exact ⟨fun hx => ⟨h.keys x hx, hx⟩, fun hx => hx.2⟩
set_option maxRecDepth 100000 in
set_option maxHeartbeats 2000000 in
theorem list_any (h sh la wa : Nat) (s : DS) (w : World) (r : RefAt w h sh la wa s) : Calls Try.prog 32 #[.pointer (some ⟨h, 0, none⟩)] w fun e w' => ∃ R A c, e = .returned (.slice A (waitL s).length c) ∧ OwnI w' R A (waitL s).length c (waitL s) ∧ Below w.heap.size w w' ∧ (∀ g, R = some g → w.heap.size ≤ g) := by
  obtain ⟨c0, c1, c2, c3, c4, c5⟩ := r.c
  have hhl := r.head.lt
  have hhi := r.ok.hi
  have hwt := r.waits
  have hwl := r.waits.lt
  have HWL := Lib.hid (waitF_len s)
  rw [waitL_eq r.ok]
  generalize hN : s.last.length = N at *
  have HN := Lib.hid hN
  clear hN
  clear r
  have HWT := Lib.hid hwt
  clear hwt
  go_enter Try.func32, Try.ntmps32
  go_wp2_with fail
  go_loopw [3, 4, 5, 11] (fun o _ _ i wr => ∃ (k : Nat) (R : Option Nat) (A : Option Addr) (c : Nat), k ≤ N ∧ i = .int .i64 k ∧ o = .slice A (listTo s k).length c ∧ OwnI wr R A (listTo s k).length c (listTo s k) ∧ Below w.heap.size w wr ∧ (∀ g, R = some g → w.heap.size ≤ g)) (fun _ _ _ i _ => N - (intOf i).toNat)
  case atStart => exact ⟨0, none, none, 0, by omega, rfl, rfl, OwnI.nil_ _ _, Below.refl _ _, by simp⟩
  case round =>
    obtain ⟨k, R, A, c, hk, rfl, rfl, hO, hB, hR⟩ := hrel
    have hll := listTo_len s k
    by_cases hlt : k < N
    · have hwr := HWT.out.below hB hwl
      have hkw : (waitF s)[k]? = some (decide ((k : Int) ∈ mkeys s.cache)) := by
        unfold waitF; rw [HN.out]; simp [hlt]
      have x1 : wr.cell? ⟨wa, k, none⟩ = some (.bool (decide ((k : Int) ∈ mkeys s.cache))) := by rw [hwr.cell]; simp [hkw]
      clear hwr hkw
      have hbs := hB.size
      by_cases hin : (k : Int) ∈ mkeys s.cache
      · have e : decide ((k : Int) ∈ mkeys s.cache) = true := by simp [hin]
        rw [e] at x1
        have HIN := Lib.hid hin
        have H3 := Lib.hid (Blk.new wr 3 #[.int .i64 k])
        have hb2 : Below wr.heap.size wr (wr.alloc (.cells #[.int .i64 k] 3)) := (Below.refl _ wr).alloc (Nat.le_refl _) _
        have H1 := Lib.hid (hO.on hb2)
        have H2 := Lib.hid (hB.trans (hb2.mono hbs))
        clear hin e hO hB hb2
        go_wp2_with (first
          | (at_builtin; refine appI1 rfl (.tmp 17) (.tmp 19) rfl _ _ _ _ _ _ rfl H1.out _ _ rfl H3.out (by omega) ?_; intro r1 A1 c1 w1 k1 k2 k3))
        go_roundw
        case rel =>
          have e := listTo_yes HIN.out
          rw [← e] at k1
          have el : (listTo s (k + 1)).length = (listTo s k).length + 1 := by rw [e]; simp
          rw [← el] at k1 ⊢
          refine ⟨k + 1, r1, A1, c1, by omega, by go_num, rfl, k1, H2.out.grown k2 H2.out.size (fun g e => hR g e), fun g e => ?_⟩
          rcases k3 with e' | e'
          · exact hR g (by rw [← e', e])
          · have := e' g e; simp at this; omega
        case measure => simp [intOf]; omega
      · have e : decide ((k : Int) ∈ mkeys s.cache) = false := by simp [hin]
        rw [e] at x1
        have e2 := Lib.hid (listTo_no hin)
        clear hin e
        go_wp2_with fail
        go_roundw
        case rel => exact ⟨k + 1, R, A, c, by omega, by go_num, by rw [e2.out], by rw [e2.out]; exact hO, hB, hR⟩
        case measure => simp [intOf]; omega
    · obtain rfl : k = N := by omega
      go_wp2
      go_ret
      exact ⟨R, A, c, rfl, hO, hB, hR⟩
end Go.Proofs.Ytnbaamjdlgojaaa
