/- Walks: the sectors that wait. -/
import Derived.Test.YtnbaamjdlgojaaaDkB
import Derived.Test.YtnbaamjdlgojaaaDkL
namespace Go.Proofs.Ytnbaamjdlgojaaa
open Go.RowKit Go.Maps Go.Sort Go.Shelf

theorem waits_nil (w : World) : Calls Try.prog 11 #[.pointer none] w fun e w' => e = .returned (.slice none 0 0) ∧ w = w' := by
  go_enter Try.func11, Try.ntmps11
  go_wp2
  go_ret
  exact ⟨rfl, rfl⟩
theorem sortsL (m : Nat) : AnyZI.SortsIn Try.prog sortedL_ren Fence.wide m :=
  ⟨fun blk off cap ss W hH hblk hsz => callsIn_wide.2 (AnyM.slices_Sort_int sortL blk off cap ss W hH hblk hsz),
   fun p cap W => callsIn_wide.2 (AnyM.slices_Sort_int_none sortL p cap W)⟩
/-- A map's block, in the shelf's words. -/
def unitR (v : Value) : Option (DataW Unit × List MemPlace) := some (.lit (.bool true), [])
set_option maxRecDepth 100000 in
theorem keyOf_i64 {k : Int} (h : 0 ≤ k ∧ k < 4096) : keyOf Try.prog 3 (.int .i64 k) = some (.int .i64 k) := by
  have hw : (Lit.int .i64 k).wf = true := by
    simp [Lit.wf, IntKind.min, IntKind.max, IntKind.bits, IntKind.signed]; omega
  unfold keyOf
  simp [Try.underlying3, mapKey, hw]
set_option maxRecDepth 100000 in
theorem owns_of_map {α : Type} {w : World} {b : Nat} {enc : α → Value} {m : List (Int × α)} (h : MapOf w b .i64 enc m) (hk : ∀ k ∈ mkeys m, 0 ≤ k ∧ k < 4096) (hl : m.length ≤ 4096) :
    ∃ D0 : DataW Unit, w.ownsMap Try.prog 3 unitR b m.length D0 ∧ (intKeys D0).Perm (mkeys m) ∧ Maps.size D0 = m.length := by
  obtain ⟨es, clock, hb, hs, hm⟩ := h
  have hkeys := keys_of_map hm
  have hlen : es.size = m.length := by have := congrArg List.length hm; simpa using this
  have hrd : ∀ x ∈ es.toList, ∃ k, x.key = .int .i64 k ∧ WideElems.rd (H := Unit) Try.prog 3 unitR x = some (.int .i64 k, .lit (.bool true)) := by
    intro x hx
    have h1 : x.key ∈ (mkeys m).map (Value.int .i64) := by rw [← hkeys]; exact List.mem_map_of_mem hx
    obtain ⟨k, hk1, e⟩ := List.mem_map.1 h1
    refine ⟨k, e.symm, ?_⟩
    unfold WideElems.rd unitR
    rw [← e, keyOf_i64 (hk k hk1)]; rfl
  refine ⟨.map ((es.toList.map (WideElems.rg Try.prog 3 unitR)).foldr DataW.insert []), ⟨es, clock, hb, ⟨by unfold maxLen; omega, hs, fun x hx => by obtain ⟨k, _, e⟩ := hrd x hx; exact ⟨_, e⟩⟩, by omega, rfl⟩, ?_, ?_⟩
  · have hp := (WideShapes.sorted_perm (es.toList.map (WideElems.rg (H := Unit) Try.prog 3 unitR))).map (fun p : Lit × DataW Unit => Go.intOf p.1)
    refine List.Perm.trans (l₂ := (es.toList.map (WideElems.rg (H := Unit) Try.prog 3 unitR)).map (fun p : Lit × DataW Unit => Go.intOf p.1)) hp ?_
    have e1 : (es.toList.map (WideElems.rg (H := Unit) Try.prog 3 unitR)).map (fun p : Lit × DataW Unit => Go.intOf p.1) = mkeys m := by
      rw [List.map_map]
      have e2 : es.toList.map ((fun p : Lit × DataW Unit => Go.intOf p.1) ∘ WideElems.rg (H := Unit) Try.prog 3 unitR) = (es.toList.map (·.key)).map RowKit.intOf := by
        rw [List.map_map]
        refine List.map_congr_left fun x hx => ?_
        obtain ⟨k, e3, e4⟩ := hrd x hx
        show Go.intOf (WideElems.rg (H := Unit) Try.prog 3 unitR x).1 = RowKit.intOf x.key
        rw [WideElems.rg_of e4, e3]; rfl
      have e5 : ((mkeys m).map (Value.int .i64)).map RowKit.intOf = mkeys m := by
        rw [List.map_map]
        exact (List.map_congr_left (g := id) (fun x _ => rfl)).trans (List.map_id _)
      rw [e2, hkeys, e5]
    rw [e1]
  · show (List.foldr DataW.insert [] _).length = _
    rw [(WideShapes.sorted_perm _).length_eq, List.length_map, Array.length_toList, hlen]
/-- A []int that reads as a list. -/
def RdI (w : World) (B : Nat) (A : Option Addr) (n : Nat) (xs : List Int) : Prop := Reads w B 1 A n (xs.map (Value.int .i64))
theorem RdI.len {w : World} {B n : Nat} {A : Option Addr} {xs : List Int} (h : RdI w B A n xs) : xs.length = n := by have := h.1; simp at this; omega
theorem RdI.at_ {w : World} {B n k : Nat} {A : Option Addr} {xs : List Int} (h : RdI w B A n xs) (hk : k < n) : ∃ ad x, A = some ad ∧ ad.block < B ∧ xs[k]? = some x ∧ w.cell? (ad.add k) = some (.int .i64 x) := by
  obtain ⟨ad, e, hb, hc⟩ := h.2 (by omega)
  have hl : k < xs.length := by have := h.len; omega
  exact ⟨ad, xs[k], e, hb, List.getElem?_eq_getElem hl, hc k _ (by simp [hl])⟩
theorem RdI.chg {w w' : World} {S : List Nat} {n : Nat} {A : Option Addr} {xs : List Int} (h : RdI w w.heap.size A n xs) (hc : Chg S w w') (hS : ∀ ad, A = some ad → ad.block ∉ S) : RdI w' w.heap.size A n xs := by
  refine ⟨h.1, fun hn => ?_⟩
  obtain ⟨ad, e, hb, hh⟩ := h.2 hn
  refine ⟨ad, e, hb, fun j u hu => ?_⟩
  rw [← hh j u hu]
  unfold World.cell?
  rw [block_of_add, hc.block ad.block hb (hS ad e)]
/-- The sectors that wait, rising. -/
def waitL (s : DS) : List Int := (mkeys s.cache).mergeSort (fun x y => decide (x ≤ y))
theorem waitL_len (s : DS) : (waitL s).length = s.cache.length := by unfold waitL; rw [List.length_mergeSort]; simp [mkeys]
set_option maxRecDepth 100000 in
set_option maxHeartbeats 1000000 in
theorem waits_any (g b l : Nat) (s : DS) (w : World) (h : DkAt w g b l s) (hl : s.cache.length ≤ 4096) : Calls Try.prog 11 #[.pointer (some ⟨g, 0, none⟩)] w fun e w' => ∃ A c, e = .returned (.slice A (waitL s).length c) ∧ (waitL s).length ≤ c ∧ c ≤ 9223372036854775807 ∧ RdI w' w'.heap.size A (waitL s).length (waitL s) ∧ (∀ ad, A = some ad → w.heap.size ≤ ad.block) ∧ Below w.heap.size w w' := by
  refine (callsIn_wide (n := 6)).1 ?_
  obtain ⟨c0, c1, c2, c3, c4⟩ := h.c
  have hgl := h.head.lt
  have hlo := h.ok.hi
  obtain ⟨D0, hown, hperm, hsz⟩ := owns_of_map h.cache (fun k hk => by have := h.ok.keys k hk; omega) hl
  have hbl := hown.lt
  have hseq : SeqGives Fence.wide 2 Try.prog 35 #[.pointer (some ⟨w.heap.size, 0, none⟩)] encZ (fun ss => ss.Perm (intKeys D0)) (Maps.size D0) (w.alloc (.cells #[.map (some b)] 57)) :=
    AnyZI.keys_gives (ρ := keysL_ren) { keysL with } Fence.wide _ trivial rfl (by omega) w.heap.size b _ D0 _ (by simp) (by simp) (by
      obtain ⟨es, clock, hb, Ft, hs, hD⟩ := hown
      exact ⟨es, clock, (Below.heap_alloc _ _ b hbl).trans hb, Ft, hs, hD⟩)
  have cK : ∀ mb W, CallsIn Fence.wide 5 Try.prog 25 #[.map mb] W fun e w' => e = .returned (.func (.func 35) #[] #[.pointer (some ⟨W.heap.size, 0, none⟩)]) ∧ w' = W.alloc (.cells #[.map mb] 57) := fun mb W => AnyZI.keys_in keysL Fence.wide 5 trivial rfl mb W
  have cS := AnyZI.sorted_in sortedL Fence.wide 5 trivial trivial trivial trivial rfl (by omega) (sortsL _) (enters_of Try.func34 (by kernel_rfl) rfl) 35 #[.pointer (some ⟨w.heap.size, 0, none⟩)] trivial (enters_of Try.func35 (by kernel_rfl) rfl) _ _ (by unfold maxLen; omega) (by omega) _ hseq
  change CallsIn _ _ Try.prog 24 _ _ _ at cS
  have hfK : Fence.wide.fn 25 := trivial
  have hfS : Fence.wide.fn 24 := trivial
  have HP := Lib.hid hperm
  have HSZ := Lib.hid hsz
  clear hperm hsz hown hseq h
  refine callsIn_of_wp Try.func11 rfl trivial ?_ rfl
  simp only [Try.ntmps11, List.size_toArray, List.length_cons, List.length_nil, Nat.reduceAdd, Nat.reduceSub, Array.replicate_succ, Array.replicate_zero, List.push_toArray, List.append_toArray, List.nil_append, List.cons_append]
  gi_wp2_with (first
    | (gi_at_call 25; refine (cK _ _).mono ?_; rintro e w' ⟨rfl, rfl⟩)
    | (gi_at_call 24; refine cS.mono ?_; rintro e w' ⟨v, ss, rfl, hS, hrow, hnil, hb⟩))
  go_ret
  have e1 : ss.mergeSort (fun x y => decide (x ≤ y)) = waitL s := mergeSort_of_perm_i (hS.trans HP.out)
  have e2 : ss.length = (waitL s).length := by rw [← e1, List.length_mergeSort]
  rw [e2, e1] at hrow
  have hB : Below w.heap.size w w' := ((Below.refl _ w).alloc (Nat.le_refl _) _).trans (hb.mono (by simp))
  rcases hrow.2 with ⟨rfl, h0⟩ | ⟨gg, cap, cur, rfl, h5, h6, h7, h8, h9⟩
  · have hn0 : waitL s = [] := List.eq_nil_of_length_eq_zero h0
    refine ⟨none, 0, by rw [hn0]; rfl, by rw [hn0]; exact Nat.le_refl 0, by omega, ?_, (fun ad e => by cases e), hB⟩
    rw [hn0]; exact Reads.none_
  · refine ⟨some ⟨gg, 0, none⟩, cap, rfl, h7, by unfold maxLen at h8; omega, Reads.of_own hrow, (fun ad e => by cases e; simp at h5; exact Nat.le_of_succ_le h5), hB⟩
end Go.Proofs.Ytnbaamjdlgojaaa
