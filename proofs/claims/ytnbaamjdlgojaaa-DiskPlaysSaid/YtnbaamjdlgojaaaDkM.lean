/- Words on memory for disks: blocks of 512 bytes, rows of such blocks, what a call may have changed. -/
import Derived.Test.YtnbaamjdlgojaaaProg
import Derived.Test.YtnbaamjdlgojaaaBase
import Derived.Test.YtnbaamjdlgojaaaMaps
import Derived.Deep.MidRow
import Derived.Deep.WholeRow
import Derived.StillTailTactics
import Derived.Deep.DeepCutAuto
namespace Go.Proofs.Ytnbaamjdlgojaaa
open Go.RowKit

/-- What a call may have changed: the blocks of S alone, of those that were there. -/
structure Chg (S : List Nat) (w w' : World) : Prop where
  os : w'.os = w.os
  tape : w'.tape = w.tape
  output : w'.output = w.output
  size : w.heap.size ≤ w'.heap.size
  block : ∀ k, k < w.heap.size → k ∉ S → w'.heap[k]? = w.heap[k]?
section
variable {w w' w'' : World} {S S' : List Nat} {B g : Nat} {t : TypeId} {cs : Array Value}
theorem Chg.refl (S : List Nat) (w : World) : Chg S w w := ⟨rfl, rfl, rfl, Nat.le_refl _, fun _ _ _ => rfl⟩
theorem Chg.trans (h : Chg S w w') (h' : Chg S w' w'') : Chg S w w'' :=
  ⟨h'.os.trans h.os, h'.tape.trans h.tape, h'.output.trans h.output, Nat.le_trans h.size h'.size, fun k hk hs => (h'.block k (Nat.lt_of_lt_of_le hk h.size) hs).trans (h.block k hk hs)⟩
theorem Chg.more (h : Chg S w w') (hS : ∀ k, k ∈ S → k ∈ S' ∨ w.heap.size ≤ k) : Chg S' w w' :=
  ⟨h.os, h.tape, h.output, h.size, fun k hk hn => h.block k hk fun hs => by rcases hS k hs with e | e; exact hn e; omega⟩
theorem Chg.of_below (h : Below w.heap.size w w') (S : List Nat) : Chg S w w' := ⟨h.os, h.tape, h.output, h.size, fun k hk _ => h.block k hk⟩
theorem Chg.below (h : Chg S w w') (hB : B ≤ w.heap.size) (hS : ∀ k ∈ S, B ≤ k) : Below B w w' :=
  ⟨h.os, h.tape, h.output, h.size, fun k hk => h.block k (by omega) fun hs => by have := hS k hs; omega⟩
theorem Chg.blk (h : Chg S w w') (hb : Blk w g t cs) (hg : g ∉ S) : Blk w' g t cs := (h.block g hb.lt hg).trans hb
theorem Chg.map {α : Type} {q : IntKind} {enc : α → Value} {m : List (Int × α)} (h : Chg S w w') (hm : MapOf w g q enc m) (hg : g ∉ S) : MapOf w' g q enc m := hm.block (h.block g hm.lt hg)
theorem Chg.drewN (h : Chg S w w') (n : Nat) : Chg S w (w'.drewN n) := ⟨h.os, h.tape, h.output, h.size, h.block⟩
theorem Chg.drew (h : Chg S w w') : Chg S w w'.drew := h.drewN 1
theorem Chg.alloc (h : Chg S w w') (o : Obj) : Chg S w (w'.alloc o) := h.trans (Chg.of_below ((Below.refl _ w').alloc (Nat.le_refl _) o) S)
theorem Chg.setCell (h : Chg S w w') {p : Addr} (hp : p.block ∈ S ∨ w.heap.size ≤ p.block) (u : Value) : Chg S w (w'.setCell p u) := by
  have hb := (Below.refl 0 w').setCell (p := p) (Nat.zero_le _) u
  refine ⟨hb.os.trans h.os, hb.tape.trans h.tape, hb.output.trans h.output, Nat.le_trans h.size hb.size, fun k hk hs => (Below.heap_setCell w' p u k ?_).trans (h.block k hk hs)⟩
  rintro rfl
  rcases hp with e | e
  · exact hs e
  · omega
theorem Chg.grown {row : Option Nat} (h : Chg S w w') (hg : w'.grownBy w'' row) (hr : ∀ g, row = some g → g ∈ S ∨ w.heap.size ≤ g) : Chg S w w'' := by
  have hb := (Below.refl 0 w').grown hg (Nat.zero_le _) (fun _ _ => Nat.zero_le _)
  refine ⟨hb.os.trans h.os, hb.tape.trans h.tape, hb.output.trans h.output, Nat.le_trans h.size hb.size, fun k hk hs => (hg.block k (Nat.lt_of_lt_of_le hk h.size) ?_).trans (h.block k hk hs)⟩
  intro e
  rcases hr k e.symm with e | e
  · exact hs e
  · omega
end

/-- A block of 512 bytes. -/
abbrev Bl : Type := List Int
def bc (b : Bl) : List Value := b.map (Value.int .u8)
def ca (b : Bl) : Array Value := (bc b).toArray
def okB (b : Bl) : Prop := b.length = 512 ∧ ∀ x ∈ b, 0 ≤ x ∧ x < 256
def zB : Bl := List.replicate 512 0
def oneB (x : Int) : Bl := x :: List.replicate 511 0
def encB (b : Bl) : Value := .agg (ca b)
theorem zB_ok : okB zB := ⟨List.length_replicate, fun x hx => by have := List.eq_of_mem_replicate hx; omega⟩
theorem oneB_ok {x : Int} (h : 0 ≤ x ∧ x < 256) : okB (oneB x) := ⟨by show (List.replicate 511 (0 : Int)).length + 1 = 512; rw [List.length_replicate], fun y hy => by
  rcases List.mem_cons.1 hy with rfl | hy
  · exact h
  · have := List.eq_of_mem_replicate hy; omega⟩
theorem bc_len (b : Bl) : (bc b).length = b.length := by simp [bc]
theorem ca_size (b : Bl) : (ca b).size = b.length := by simp [ca, bc]
theorem bc_inj : ∀ {b b' : Bl}, bc b = bc b' → b = b'
  | [], [], _ => rfl
  | [], _ :: _, h => by simp [bc] at h
  | _ :: _, [], h => by simp [bc] at h
  | x :: b, y :: b', h => by
    simp only [bc, List.map_cons, List.cons.injEq, Value.int.injEq, true_and] at h
    rw [h.1, bc_inj (b := b) (b' := b') h.2]
theorem ca_one (b : Bl) : (ca b).all (·.oneCell') = true := all_oneCell_toArray fun v hv => by
  obtain ⟨x, _, rfl⟩ := List.mem_map.1 hv; rfl
set_option maxRecDepth 100000 in
theorem infoB : (Try.prog.info? 33).map (·.size) = some 512 := by kernel_rfl
theorem infoB' {b : Bl} (h : okB b) : (Try.prog.info? 33).map (·.size) = some (ca b).size := by rw [ca_size, h.1]; exact infoB
theorem infoBl {b : Bl} (h : okB b) : (Try.prog.info? 33).map (·.size) = some (bc b).length := by rw [bc_len, h.1]; exact infoB

/-- Rows of blocks, laid flat. -/
def flat (bs : List Bl) : List Value := bs.flatMap bc
theorem flat_len : ∀ {bs : List Bl}, (∀ b ∈ bs, okB b) → (flat bs).length = bs.length * 512
  | [], _ => rfl
  | b :: bs, h => by
    have h1 := flat_len (bs := bs) fun x hx => h x (List.mem_cons_of_mem _ hx)
    have h2 := (h b List.mem_cons_self).1
    simp only [flat, List.flatMap_cons, List.length_append, bc_len, List.length_cons] at h1 ⊢
    omega
theorem flat_at : ∀ {bs : List Bl} {i : Nat} {b : Bl}, (∀ b ∈ bs, okB b) → bs[i]? = some b → ∀ j, j < 512 → (flat bs)[i * 512 + j]? = (bc b)[j]?
  | [], i, b, _, h => by simp at h
  | x :: bs, 0, b, h, e => by
    intro j hj
    simp at e; subst e
    have hx := (h x List.mem_cons_self).1
    simp only [flat, List.flatMap_cons, Nat.zero_mul, Nat.zero_add]
    rw [List.getElem?_append_left (by rw [bc_len]; omega)]
  | x :: bs, i + 1, b, h, e => by
    intro j hj
    have hx := (h x List.mem_cons_self).1
    have := flat_at (bs := bs) (i := i) (b := b) (fun y hy => h y (List.mem_cons_of_mem _ hy)) (by simpa using e) j hj
    simp only [flat, List.flatMap_cons] at this ⊢
    have e1 : (i + 1) * 512 + j - 512 = i * 512 + j := by omega
    rw [List.getElem?_append_right (by rw [bc_len]; omega), bc_len, hx, ← this, e1]
theorem flat_set : ∀ {bs : List Bl} {i : Nat} {b : Bl}, (∀ b ∈ bs, okB b) → okB b → i < bs.length → flat (bs.set i b) = (flat bs).take (i * 512) ++ bc b ++ (flat bs).drop (i * 512 + 512)
  | [], i, b, _, _, h => by simp at h
  | x :: bs, 0, b, h, hb, _ => by
    have hx := (h x List.mem_cons_self).1
    simp only [List.set_cons_zero, flat, List.flatMap_cons, Nat.zero_mul, List.take_zero, List.nil_append, Nat.zero_add]
    rw [List.drop_append, bc_len, hx, Nat.sub_self, List.drop_zero, List.drop_of_length_le (by rw [bc_len]; omega), List.nil_append]
  | x :: bs, i + 1, b, h, hb, hi => by
    have hx := (h x List.mem_cons_self).1
    have ih := flat_set (bs := bs) (i := i) (b := b) (fun y hy => h y (List.mem_cons_of_mem _ hy)) hb (by simpa using hi)
    simp only [List.set_cons_succ, flat, List.flatMap_cons] at ih ⊢
    have e1 : (i + 1) * 512 - 512 = i * 512 := by rw [Nat.succ_mul, Nat.add_sub_cancel]
    have e2 : (i + 1) * 512 + 512 - 512 = i * 512 + 512 := by rw [Nat.add_sub_cancel, Nat.succ_mul]
    have e3 : (bc x).take ((i + 1) * 512) = bc x := List.take_of_length_le (by rw [bc_len, hx]; omega)
    have e4 : (bc x).drop ((i + 1) * 512 + 512) = [] := List.drop_of_length_le (by rw [bc_len, hx]; omega)
    rw [ih, List.take_append, List.drop_append, e3, e4, bc_len, hx, e1, e2]
    simp only [List.nil_append, List.append_assoc]
/-- A run of cells written anew. -/
def spl (cs : Array Value) : Nat → List Value → Array Value
  | _, [] => cs
  | o, v :: r => spl (cs.setIfInBounds o v) (o + 1) r
theorem spl_size : ∀ (vs : List Value) (cs : Array Value) (o : Nat), (spl cs o vs).size = cs.size
  | [], _, _ => rfl
  | v :: r, cs, o => by rw [spl, spl_size r]; simp
theorem spl_at : ∀ (vs : List Value) (cs : Array Value) (o j : Nat), o + vs.length ≤ cs.size → (spl cs o vs)[j]? = if o ≤ j ∧ j < o + vs.length then vs[j - o]? else cs[j]?
  | [], cs, o, j, _ => by rw [spl, if_neg (by simp only [List.length_nil]; omega)]
  | v :: r, cs, o, j, h => by
    simp only [List.length_cons] at h ⊢
    rw [spl, spl_at r _ _ _ (by simp; omega)]
    by_cases h1 : o + 1 ≤ j ∧ j < o + 1 + r.length
    · rw [if_pos h1, if_pos (by omega), show j - o = (j - (o + 1)) + 1 by omega, List.getElem?_cons_succ]
    · rw [if_neg h1]
      by_cases h2 : j = o
      · subst h2
        rw [if_pos (by omega), Array.getElem?_setIfInBounds_self_of_lt (by omega), Nat.sub_self]; rfl
      · rw [if_neg (by omega), Array.getElem?_setIfInBounds_ne (by omega)]
theorem spl_list {vs : List Value} {cs : Array Value} {o : Nat} (h : o + vs.length ≤ cs.size) : (spl cs o vs).toList = cs.toList.take o ++ vs ++ cs.toList.drop (o + vs.length) := by
  apply List.ext_getElem?
  intro j
  rw [Array.getElem?_toList, spl_at _ _ _ _ h]
  by_cases h1 : j < o
  · rw [if_neg (by omega), List.append_assoc, List.getElem?_append_left (by simp; omega), List.getElem?_take_of_lt h1, Array.getElem?_toList]
  · by_cases h2 : j < o + vs.length
    · rw [if_pos (by omega), List.append_assoc, List.getElem?_append_right (by simp; omega), List.getElem?_append_left (by simp; omega)]
      congr 1; simp; omega
    · rw [if_neg (by omega), List.getElem?_append_right (by simp; omega), List.getElem?_drop, Array.getElem?_toList]
      congr 1; simp; omega
theorem Blk.setCells : ∀ {vs : List Value} {w : World} {g o : Nat} {t : TypeId} {cs : Array Value}, Blk w g t cs → Blk (w.setCells g o vs) g t (spl cs o vs)
  | [], _, _, _, _, _, h => h
  | v :: r, _, _, _, _, _, h => Blk.setCells (vs := r) (h.set_ _ v)
theorem Chg.setCells {S : List Nat} {g : Nat} : ∀ {vs : List Value} {w w' : World} {o : Nat}, Chg S w w' → (g ∈ S ∨ w.heap.size ≤ g) → Chg S w (w'.setCells g o vs)
  | [], _, _, _, h, _ => h
  | v :: r, _, _, _, h, hg => Chg.setCells (vs := r) (h.setCell (p := ⟨g, _, none⟩) hg v) hg

/-- Block l is the row of blocks bs. -/
def LastAt (w : World) (l : Nat) (bs : List Bl) : Prop := Blk w l 33 (flat bs).toArray ∧ ∀ b ∈ bs, okB b
theorem LastAt.range {w : World} {l i : Nat} {bs : List Bl} {b : Bl} (h : LastAt w l bs) (hi : bs[i]? = some b) : w.rangeAt l (i * 512) (bc b) := fun j v hv => by
  have hb := (h.2 b (List.mem_of_getElem? hi)).1
  have hj : j < 512 := by have := (List.getElem?_eq_some_iff.1 hv).1; rw [bc_len] at this; omega
  rw [h.1.cell, List.getElem?_toArray, flat_at h.2 hi j hj, hv]
theorem LastAt.there {w : World} {l i : Nat} {bs : List Bl} (h : LastAt w l bs) (hi : i < bs.length) : w.there l (i * 512) 512 := fun j hj => by
  refine ⟨?_, h.1.frozen _⟩
  rw [h.1.cell, List.getElem?_toArray, List.getElem?_eq_getElem (by rw [flat_len h.2]; omega)]
  rfl
theorem LastAt.set {w : World} {l i : Nat} {bs : List Bl} {b : Bl} (h : LastAt w l bs) (hb : okB b) (hi : i < bs.length) : LastAt (w.setCells l (i * 512) (bc b)) l (bs.set i b) := by
  refine ⟨?_, fun x hx => ?_⟩
  · have := h.1.setCells (vs := bc b) (o := i * 512)
    have hl := flat_len h.2
    have e : spl (flat bs).toArray (i * 512) (bc b) = (flat (bs.set i b)).toArray := by
      have h1 := spl_list (vs := bc b) (cs := (flat bs).toArray) (o := i * 512) (by rw [bc_len, hb.1]; simp; omega)
      rw [flat_set h.2 hb hi]
      apply Array.toList_inj.1
      rw [h1, bc_len, hb.1]
    rwa [e] at this
  · rcases List.mem_or_eq_of_mem_set hx with hx | rfl
    · exact h.2 x hx
    · exact hb
theorem LastAt.keep {w w' : World} {l : Nat} {bs : List Bl} (h : LastAt w l bs) (e : w'.heap[l]? = w.heap[l]?) : LastAt w' l bs := ⟨e.trans h.1, h.2⟩
theorem Chg.last {S : List Nat} {w w' : World} {l : Nat} {bs : List Bl} (hc : Chg S w w') (h : LastAt w l bs) (hl : l ∉ S) : LastAt w' l bs := h.keep (hc.block l h.1.lt hl)
/-- A block that is a variable of its own. -/
def BlAt (w : World) (g : Nat) (b : Bl) : Prop := Blk w g 33 (ca b) ∧ okB b
theorem BlAt.range {w : World} {g : Nat} {b : Bl} (h : BlAt w g b) : w.rangeAt g 0 (bc b) := fun j v hv => by
  rw [Nat.zero_add, h.1.cell]; simpa [ca] using hv
theorem BlAt.there {w : World} {g : Nat} {b : Bl} (h : BlAt w g b) : w.there g 0 512 := fun j hj => by
  refine ⟨?_, h.1.frozen _⟩
  rw [h.1.cell, Array.getElem?_eq_getElem (by rw [ca_size, h.2.1]; omega)]; rfl
theorem BlAt.set {w : World} {g : Nat} {b b' : Bl} (h : BlAt w g b) (hb : okB b') : BlAt (w.setCells g 0 (bc b')) g b' := by
  refine ⟨?_, hb⟩
  have := h.1.setCells (vs := bc b') (o := 0)
  have e : spl (ca b) 0 (bc b') = ca b' := by
    apply Array.toList_inj.1
    rw [spl_list (by rw [bc_len, hb.1, ca_size, h.2.1]; omega), bc_len, hb.1]
    simp [ca, bc_len, h.2.1]
  rwa [e] at this
set_option maxRecDepth 100000 in
theorem zeroB (w : World) : (zeroValue 33).run Try.prog w = .ok (.agg (ca zB)) w := by kernel_rfl
set_option maxRecDepth 100000 in
theorem buildB (w : World) : (Instr.build 33 #[]).run Try.prog w = .ok (.agg (ca zB)) w := by kernel_rfl
set_option maxRecDepth 100000 in
theorem buildB1 (x : Int) (w : World) : (Instr.build 33 #[(0, .int .u8 x)]).run Try.prog w = .ok (.agg (ca (oneB x))) w := by kernel_rfl
end Go.Proofs.Ytnbaamjdlgojaaa
