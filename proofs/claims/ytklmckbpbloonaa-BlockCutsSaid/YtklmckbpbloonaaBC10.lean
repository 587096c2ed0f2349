/- Parts of the proof: ChgT. -/
import Derived.Test.YtklmckbpbloonaaProg
import Derived.Test.YtklmckbpbloonaaBC1
import Derived.Deep.MidRow
import Derived.Deep.WholeRow
import Derived.StillTailTactics
import Derived.Deep.DeepCutAuto
namespace Go.Proofs.Ytklmckbpbloonaa
open Go.RowKit

/-- What a call may have changed: the blocks of S alone, of those that were there. -/
structure Chg (S : List Nat) (w w' : World) : Prop where
  os : w'.os = w.os
  tape : w'.tape = w.tape
  output : w'.output = w.output
  size : w.heap.size ≤ w'.heap.size
  block : ∀ k, k < w.heap.size → k ∉ S → w'.heap[k]? = w.heap[k]?
section
variable {w w' w'' : World} {S S' : List Nat} {B g : Nat} {t : TypeId} {cs : Array Value}
theorem Chg.refl (S : List Nat) (w : World) : Chg S w w := ⟨rfl, rfl, rfl, Nat.le_refl _, fun _ _ _ => rfl⟩
theorem Chg.trans (h : Chg S w w') (h' : Chg S w' w'') : Chg S w w'' :=
  ⟨h'.os.trans h.os, h'.tape.trans h.tape, h'.output.trans h.output, Nat.le_trans h.size h'.size, fun k hk hs => (h'.block k (Nat.lt_of_lt_of_le hk h.size) hs).trans (h.block k hk hs)⟩
theorem Chg.more (h : Chg S w w') (hS : ∀ k, k ∈ S → k ∈ S' ∨ w.heap.size ≤ k) : Chg S' w w' :=
  ⟨h.os, h.tape, h.output, h.size, fun k hk hn => h.block k hk fun hs => by rcases hS k hs with e | e; exact hn e; omega⟩
theorem Chg.of_below (h : Below w.heap.size w w') (S : List Nat) : Chg S w w' := ⟨h.os, h.tape, h.output, h.size, fun k hk _ => h.block k hk⟩
theorem Chg.below (h : Chg S w w') (hB : B ≤ w.heap.size) (hS : ∀ k ∈ S, B ≤ k) : Below B w w' :=
  ⟨h.os, h.tape, h.output, h.size, fun k hk => h.block k (by omega) fun hs => by have := hS k hs; omega⟩
theorem Chg.blk (h : Chg S w w') (hb : Blk w g t cs) (hg : g ∉ S) : Blk w' g t cs := (h.block g hb.lt hg).trans hb
theorem Chg.map {α : Type} {q : IntKind} {enc : α → Value} {m : List (Int × α)} (h : Chg S w w') (hm : MapOf w g q enc m) (hg : g ∉ S) : MapOf w' g q enc m := hm.block (h.block g hm.lt hg)
theorem Chg.drewN (h : Chg S w w') (n : Nat) : Chg S w (w'.drewN n) := ⟨h.os, h.tape, h.output, h.size, h.block⟩
theorem Chg.drew (h : Chg S w w') : Chg S w w'.drew := h.drewN 1
theorem Chg.alloc (h : Chg S w w') (o : Obj) : Chg S w (w'.alloc o) := h.trans (Chg.of_below ((Below.refl _ w').alloc (Nat.le_refl _) o) S)
theorem Chg.setCell (h : Chg S w w') {p : Addr} (hp : p.block ∈ S ∨ w.heap.size ≤ p.block) (u : Value) : Chg S w (w'.setCell p u) := by
  have hb := (Below.refl 0 w').setCell (p := p) (Nat.zero_le _) u
  refine ⟨hb.os.trans h.os, hb.tape.trans h.tape, hb.output.trans h.output, Nat.le_trans h.size hb.size, fun k hk hs => (Below.heap_setCell w' p u k ?_).trans (h.block k hk hs)⟩
  rintro rfl
  rcases hp with e | e
  · exact hs e
  · omega
theorem Chg.grown {row : Option Nat} (h : Chg S w w') (hg : w'.grownBy w'' row) (hr : ∀ g, row = some g → g ∈ S ∨ w.heap.size ≤ g) : Chg S w w'' := by
  have hb := (Below.refl 0 w').grown hg (Nat.zero_le _) (fun _ _ => Nat.zero_le _)
  refine ⟨hb.os.trans h.os, hb.tape.trans h.tape, hb.output.trans h.output, Nat.le_trans h.size hb.size, fun k hk hs => (hg.block k (Nat.lt_of_lt_of_le hk h.size) ?_).trans (h.block k hk hs)⟩
  intro e
  rcases hr k e.symm with e | e
  · exact hs e
  · omega
end

/-- A run of cells written anew. -/
def spl (cs : Array Value) : Nat → List Value → Array Value
  | _, [] => cs
  | o, v :: r => spl (cs.setIfInBounds o v) (o + 1) r
theorem spl_size : ∀ (vs : List Value) (cs : Array Value) (o : Nat), (spl cs o vs).size = cs.size
  | [], _, _ => rfl
  | v :: r, cs, o => by rw [spl, spl_size r]; simp
theorem spl_at : ∀ (vs : List Value) (cs : Array Value) (o j : Nat), o + vs.length ≤ cs.size → (spl cs o vs)[j]? = if o ≤ j ∧ j < o + vs.length then vs[j - o]? else cs[j]?
  | [], cs, o, j, _ => by rw [spl, if_neg (by simp only [List.length_nil]; omega)]
  | v :: r, cs, o, j, h => by
    simp only [List.length_cons] at h ⊢
    rw [spl, spl_at r _ _ _ (by simp; omega)]
    by_cases h1 : o + 1 ≤ j ∧ j < o + 1 + r.length
    · rw [if_pos h1, if_pos (by omega), show j - o = (j - (o + 1)) + 1 by omega, List.getElem?_cons_succ]
    · rw [if_neg h1]
      by_cases h2 : j = o
      · subst h2
        rw [if_pos (by omega), Array.getElem?_setIfInBounds_self_of_lt (by omega), Nat.sub_self]; rfl
      · rw [if_neg (by omega), Array.getElem?_setIfInBounds_ne (by omega)]
theorem spl_list {vs : List Value} {cs : Array Value} {o : Nat} (h : o + vs.length ≤ cs.size) : (spl cs o vs).toList = cs.toList.take o ++ vs ++ cs.toList.drop (o + vs.length) := by
  apply List.ext_getElem?
  intro j
  rw [Array.getElem?_toList, spl_at _ _ _ _ h]
  by_cases h1 : j < o
  · rw [if_neg (by omega), List.append_assoc, List.getElem?_append_left (by simp; omega), List.getElem?_take_of_lt h1, Array.getElem?_toList]
  · by_cases h2 : j < o + vs.length
    · rw [if_pos (by omega), List.append_assoc, List.getElem?_append_right (by simp; omega), List.getElem?_append_left (by simp; omega)]
      congr 1; simp; omega
    · rw [if_neg (by omega), List.getElem?_append_right (by simp; omega), List.getElem?_drop, Array.getElem?_toList]
      congr 1; simp; omega
theorem Blk.setCells : ∀ {vs : List Value} {w : World} {g o : Nat} {t : TypeId} {cs : Array Value}, Blk w g t cs → Blk (w.setCells g o vs) g t (spl cs o vs)
  | [], _, _, _, _, _, h => h
  | v :: r, _, _, _, _, _, h => Blk.setCells (vs := r) (h.set_ _ v)
theorem Chg.setCells {S : List Nat} {g : Nat} : ∀ {vs : List Value} {w w' : World} {o : Nat}, Chg S w w' → (g ∈ S ∨ w.heap.size ≤ g) → Chg S w (w'.setCells g o vs)
  | [], _, _, _, h, _ => h
  | v :: r, _, _, _, h, hg => Chg.setCells (vs := r) (h.setCell (p := ⟨g, _, none⟩) hg v) hg

end Go.Proofs.Ytklmckbpbloonaa
