/- The reference's disk: its state in memory, over the same plain states; its small functions. -/
import Derived.Test.YtnbaamjdlgojaaaDkA
import Derived.Test.YtnbaamjdlgojaaaDkQ
namespace Go.Proofs.Ytnbaamjdlgojaaa
open Go.RowKit

/-- What is shown. -/
def shownL (s : DS) : List Bl := laidK s.last s.cache []
def waitF (s : DS) : List Bool := (List.range s.last.length).map fun i : Nat => decide ((i : Int) ∈ mkeys s.cache)
def refCells (s : DS) (sh la wa : Nat) : Array Value := #[.slice (some ⟨sh, 0, none⟩) s.last.length s.last.length, .slice (some ⟨la, 0, none⟩) s.last.length s.last.length, .slice (some ⟨wa, 0, none⟩) s.last.length s.last.length, .int .i64 s.steps, .int .i64 s.fuse, .bool s.down]
/-- Blocks h, sh, la, wa hold the reference's disk in state s. -/
structure RefAt (w : World) (h sh la wa : Nat) (s : DS) : Prop where
  head : Blk w h 51 (refCells s sh la wa)
  shown : LastAt w sh (shownL s)
  last : LastAt w la s.last
  waits : Blk w wa 4 ((waitF s).map Value.bool).toArray
  two : sh ≠ la
  ok : DsOk s
section
variable {w w' : World} {h sh la wa : Nat} {s : DS} {S : List Nat}
theorem RefAt.ne (r : RefAt w h sh la wa s) : h ≠ sh ∧ h ≠ la ∧ h ≠ wa ∧ sh ≠ la ∧ sh ≠ wa ∧ la ≠ wa :=
  ⟨Blk.ne_ r.head r.shown.1 (by decide), Blk.ne_ r.head r.last.1 (by decide), Blk.ne_ r.head r.waits (by decide), r.two, Blk.ne_ r.shown.1 r.waits (by decide), Blk.ne_ r.last.1 r.waits (by decide)⟩
theorem RefAt.keep (r : RefAt w h sh la wa s) (hc : Chg S w w') (h1 : h ∉ S) (h2 : sh ∉ S) (h3 : la ∉ S) (h4 : wa ∉ S) : RefAt w' h sh la wa s := ⟨hc.blk r.head h1, hc.last r.shown h2, hc.last r.last h3, hc.blk r.waits h4, r.two, r.ok⟩
theorem RefAt.below (r : RefAt w h sh la wa s) (hb : Below w.heap.size w w') : RefAt w' h sh la wa s := r.keep (Chg.of_below hb []) (by simp) (by simp) (by simp) (by simp)
theorem RefAt.drewN (r : RefAt w h sh la wa s) (n : Nat) : RefAt (w.drewN n) h sh la wa s := ⟨r.head, r.shown, r.last, r.waits, r.two, r.ok⟩
theorem RefAt.c (r : RefAt w h sh la wa s) : w.cell? ⟨h, 0, none⟩ = some (.slice (some ⟨sh, 0, none⟩) s.last.length s.last.length) ∧ w.cell? ⟨h, 1, none⟩ = some (.slice (some ⟨la, 0, none⟩) s.last.length s.last.length) ∧ w.cell? ⟨h, 2, none⟩ = some (.slice (some ⟨wa, 0, none⟩) s.last.length s.last.length) ∧ w.cell? ⟨h, 3, none⟩ = some (.int .i64 s.steps) ∧ w.cell? ⟨h, 4, none⟩ = some (.int .i64 s.fuse) ∧ w.cell? ⟨h, 5, none⟩ = some (.bool s.down) :=
  ⟨r.head.cell 0, r.head.cell 1, r.head.cell 2, r.head.cell 3, r.head.cell 4, r.head.cell 5⟩
theorem RefAt.f (r : RefAt w h sh la wa s) : w.frozen? ⟨h, 3, none⟩ = false ∧ w.frozen? ⟨h, 4, none⟩ = false ∧ w.frozen? ⟨h, 5, none⟩ = false := ⟨r.head.frozen 3, r.head.frozen 4, r.head.frozen 5⟩
end
theorem shown_len (s : DS) : (shownL s).length = s.last.length := laidK_len _ _ _
theorem waitF_len (s : DS) : (waitF s).length = s.last.length := by simp [waitF]
theorem shown_put {s : DS} {k : Nat} (hk : k < s.last.length) (b : Bl) : laidK s.last (mput s.cache k b) [] = (shownL s).set k b := by
  apply List.ext_getElem?
  intro i
  by_cases h : i < s.last.length
  · rw [laidK_at h, List.getElem?_set, mget_mput]
    by_cases e : k = i
    · subst e
      rw [if_pos rfl (c := (k = k)), if_pos (c := k < (shownL s).length) (by rw [shown_len]; exact h), if_neg (by simp), if_pos rfl]; rfl
    · rw [if_neg e]
      unfold shownL
      rw [laidK_at h, if_neg (show ¬ ((i : Int) = (k : Int)) by omega)]
  · rw [List.getElem?_eq_none (by rw [laidK_len]; omega), List.getElem?_eq_none (by rw [List.length_set, shown_len]; omega)]
theorem waits_put {s : DS} {k : Nat} (hk : k < s.last.length) (b : Bl) : ((List.range s.last.length).map fun i : Nat => decide ((i : Int) ∈ mkeys (mput s.cache k b))) = (waitF s).set k true := by
  apply List.ext_getElem?
  intro i
  by_cases h : i < s.last.length
  · rw [List.getElem?_set]
    have hm : ((i : Int) ∈ mkeys (mput s.cache k b)) ↔ ((i : Int) ∈ mkeys s.cache ∨ i = k) := by
      rw [mkeys_mput]
      split
      · rename_i hin
        exact ⟨.inl, fun e => by rcases e with e | e; exact e; subst e; exact hin⟩
      · simp only [List.mem_append, List.mem_singleton]
        exact ⟨fun e => e.imp id (fun e => by omega), fun e => e.imp id (fun e => by omega)⟩
    by_cases e : k = i
    · subst e
      rw [if_pos rfl, if_pos (by rw [waitF_len]; exact h)]; simp [h, hm]
    · rw [if_neg e]
      unfold waitF
      simp [h, hm, Ne.symm e]
  · rw [List.getElem?_eq_none (by simp; omega), List.getElem?_eq_none (by rw [List.length_set, waitF_len]; omega)]
set_option maxRecDepth 100000 in
theorem step_any (h sh la wa : Nat) (s : DS) (w : World) (r : RefAt w h sh la wa s) (hst : 0 ≤ s.steps ∧ s.steps ≤ 1000000) :
    Calls Try.prog 36 #[.pointer (some ⟨h, 0, none⟩)] w fun e w' => e = .returned (.bool (decide (s.fuse ≠ 0))) ∧ Blk w' h 51 (refCells (ticked s) sh la wa) ∧ Chg [h] w w' := by
  obtain ⟨c0, c1, c2, c3, c4, c5⟩ := r.c
  obtain ⟨f3, f4, f5⟩ := r.f
  have hg := r.head.lt
  have HH := Lib.hid r.head
  obtain ⟨o1, o2⟩ := r.ok.fuse
  obtain ⟨o3, o4⟩ := hst
  clear r
  by_cases h0 : s.fuse = 0
  · have h0' : (s.fuse == 0) = true := by simp [h0]
    have H0 := Lib.hid h0
    clear h0
    go_enter Try.func36, Try.ntmps36
    go_wp2
    go_ret
    refine ⟨ret_bool (by simp [H0.out]), ?_, (Chg.refl [h] w).setCell (p := ⟨h, 5, none⟩) (by simp) _⟩
    have := HH.out.set_ 5 (.bool true)
    unfold ticked; rw [if_pos H0.out]
    simpa [refCells] using this
  · have h0' : (s.fuse == 0) = false := by simp [h0]
    have H0 := Lib.hid h0
    clear h0
    by_cases h1 : 0 < s.fuse
    · go_enter Try.func36, Try.ntmps36
      go_wp2
      go_ret
      refine ⟨ret_bool (by simp [H0.out]), ?_, ((Chg.refl [h] w).setCell (p := ⟨h, 4, none⟩) (by simp) _).setCell (p := ⟨h, 3, none⟩) (by simp) _⟩
      have := (HH.out.set_ 4 (.int .i64 (s.fuse - 1))).set_ 3 (.int .i64 (s.steps + 1))
      unfold ticked; rw [if_neg H0.out]
      simpa [refCells, h1] using this
    · have h1' : decide (0 < s.fuse) = false := by simpa using h1
      go_enter Try.func36, Try.ntmps36
      go_wp2
      go_ret
      refine ⟨ret_bool (by simp [H0.out]), ?_, (Chg.refl [h] w).setCell (p := ⟨h, 3, none⟩) (by simp) _⟩
      have := HH.out.set_ 3 (.int .i64 (s.steps + 1))
      unfold ticked; rw [if_neg H0.out, if_neg (by omega)]
      simpa [refCells] using this
end Go.Proofs.Ytnbaamjdlgojaaa
