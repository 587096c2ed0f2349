/- Parts of the proof: Own, Dart, UnionA, UnionB, UnionC, GraphB, GraphC, UnionD, UnionE. -/
import Derived.Test.YtklmckbpbloonaaUO1
import Derived.Lib.AppendZerosOnto
import Derived.Deep.QuietTactic
import Derived.BigQuiet
import Derived.Shelf.Abstract
namespace Go.Proofs.Ytklmckbpbloonaa
open Go.RowKit

/-! The two kinds of rows of this program's lower layers. -/
theorem one_U (xs : List Int) : ∀ u ∈ U xs, u.oneCell' = true := by
  intro u hu
  simp only [U, List.mem_map] at hu
  obtain ⟨x, _, rfl⟩ := hu
  rfl
theorem one_Ed (es : List Edg) : ∀ u ∈ Ed es, u.oneCell' = true := by
  intro u hu
  simp only [Ed, List.mem_flatMap] at hu
  obtain ⟨x, _, hx⟩ := hu
  simp only [List.mem_cons, List.not_mem_nil, or_false] at hx
  rcases hx with rfl | rfl | rfl <;> rfl
theorem U_append (xs ys : List Int) : U (xs ++ ys) = U xs ++ U ys := by simp [U]
theorem Ed_append (xs ys : List Edg) : Ed (xs ++ ys) = Ed xs ++ Ed ys := by simp [Ed]
theorem infoU : (Try.prog.info? 31).map (fun i => (i.zero, i.size, i.bytes)) = some (some (.int .u32 0), 1, 4) := by kernel_rfl
theorem infoE : (Try.prog.info? 39).map (fun i => (i.zero, i.size, i.bytes)) = some (some (.agg #[.int .u32 0, .int .u32 0, .int .u32 0]), 3, 12) := by kernel_rfl

def u32s (xs : List Int) : Prop := ∀ x ∈ xs, 0 ≤ x ∧ x < 4294967296
def edgs (es : List Edg) : Prop := ∀ e ∈ es, (0 ≤ e.1 ∧ e.1 < 4294967296) ∧ (0 ≤ e.2.1 ∧ e.2.1 < 4294967296) ∧ (0 ≤ e.2.2 ∧ e.2.2 < 4294967296)
def OwnU (w : World) (r : Option Nat) (A : Option Addr) (n c : Nat) (xs : List Int) : Prop := (Own w 31 1 r A n c (U xs) ∧ (A = none → r = none)) ∧ u32s xs
def OwnE (w : World) (r : Option Nat) (A : Option Addr) (n c : Nat) (es : List Edg) : Prop := (Own w 39 3 r A n c (Ed es) ∧ (A = none → r = none)) ∧ edgs es
section
variable {w w' : World} {r : Option Nat} {A : Option Addr} {n c : Nat} {xs : List Int} {es : List Edg}
theorem OwnU.nil_ (w : World) (A : Option Addr) : OwnU w none A 0 0 [] := ⟨⟨Own.nil_ w _ 1 A, fun _ => rfl⟩, by intro x hx; simp at hx⟩
theorem OwnE.nil_ (w : World) (A : Option Addr) : OwnE w none A 0 0 [] := ⟨⟨Own.nil_ w _ 3 A, fun _ => rfl⟩, by intro x hx; simp at hx⟩
theorem OwnU.rd (h : OwnU w r A n c xs) : RdU w w.heap.size A n c xs := ⟨h.1.1.reads, h.1.1.1, h.1.1.2.1, fun hA => h.1.1.cap0 (h.1.2 hA), h.2⟩
theorem OwnE.rd (h : OwnE w r A n c es) : RdE w w.heap.size A n c es := ⟨h.1.1.reads, h.1.1.1, h.1.1.2.1, fun hA => h.1.1.cap0 (h.1.2 hA), h.2⟩
theorem OwnU.len (h : OwnU w r A n c xs) : xs.length = n := h.rd.len
theorem OwnE.len (h : OwnE w r A n c es) : es.length = n := h.rd.len
theorem OwnU.lt (h : OwnU w r A n c xs) : ∀ g, r = some g → g < w.heap.size := h.1.1.lt
theorem OwnE.lt (h : OwnE w r A n c es) : ∀ g, r = some g → g < w.heap.size := h.1.1.lt
theorem OwnU.kept {row : Option Nat} (h : OwnU w r A n c xs) (hg : w.grownBy w' row) (hne : r = none ∨ r ≠ row) : OwnU w' r A n c xs := ⟨⟨h.1.1.kept hg hne, h.1.2⟩, h.2⟩
theorem OwnE.kept {row : Option Nat} (h : OwnE w r A n c es) (hg : w.grownBy w' row) (hne : r = none ∨ r ≠ row) : OwnE w' r A n c es := ⟨⟨h.1.1.kept hg hne, h.1.2⟩, h.2⟩
theorem OwnU.alloc (h : OwnU w r A n c xs) (o : Obj) : OwnU (w.alloc o) r A n c xs := ⟨⟨h.1.1.alloc o, h.1.2⟩, h.2⟩
theorem OwnE.alloc (h : OwnE w r A n c es) (o : Obj) : OwnE (w.alloc o) r A n c es := ⟨⟨h.1.1.alloc o, h.1.2⟩, h.2⟩
theorem OwnU.drewN (h : OwnU w r A n c xs) (q : Nat) : OwnU (w.drewN q) r A n c xs := h
theorem OwnE.drewN (h : OwnE w r A n c es) (q : Nat) : OwnE (w.drewN q) r A n c es := h
theorem OwnU.below {B : Nat} (h : OwnU w r A n c xs) (hb : Below B w w') (hB : ∀ g, r = some g → g < B) : OwnU w' r A n c xs := ⟨⟨h.1.1.below hb hB, h.1.2⟩, h.2⟩
theorem OwnE.below {B : Nat} (h : OwnE w r A n c es) (hb : Below B w w') (hB : ∀ g, r = some g → g < B) : OwnE w' r A n c es := ⟨⟨h.1.1.below hb hB, h.1.2⟩, h.2⟩
theorem OwnU.setCell_far (h : OwnU w r A n c xs) {p : Addr} (hp : ∀ g, r = some g → g ≠ p.block) (u : Value) : OwnU (w.setCell p u) r A n c xs := ⟨⟨h.1.1.setCell_far hp u, h.1.2⟩, h.2⟩
theorem OwnE.setCell_far (h : OwnE w r A n c es) {p : Addr} (hp : ∀ g, r = some g → g ≠ p.block) (u : Value) : OwnE (w.setCell p u) r A n c es := ⟨⟨h.1.1.setCell_far hp u, h.1.2⟩, h.2⟩
end
theorem none_of_own {w : World} {e : TypeId} {size n c : Nat} {r : Option Nat} {A : Option Addr} {xs : List Value} (h : Own w e size r A n c xs) : A = none → r = none := by
  intro hA
  cases r with
  | none => rfl
  | some g => obtain ⟨_, _, _, h4, _⟩ := h; rw [h4] at hA; cases hA

/-- 'append(out, ys...)' at []uint32, whatever out and ys. -/
theorem appU {ops : Array Oper} {rest : List Oper} {o : Oper} {a : Act} {Q : Exit → Act → World → Prop} (hgd : o.guard = none) (s x : Operand)
    (ho : o.op = .call { callee := .builtin .append, args := #[s, x], argTypes := #[22, 22] }) (w : World)
    (r : Option Nat) (A : Option Addr) (n c : Nat) (xs : List Int) (hs : a.eval s = .slice A n c) (hown : OwnU w r A n c xs)
    (B : Nat) (A' : Option Addr) (m c' : Nat) (ys : List Int) (hx : a.eval x = .slice A' m c') (hr : RdU w B A' m c' ys) (hb : n + m ≤ 17592186044416)
    (h : ∀ r' A'' c'' w', OwnU w' r' A'' (n + m) c'' (xs ++ ys) → w.grownBy w' r → (r' = r ∨ ∀ g, r' = some g → w.heap.size ≤ g) → wpList Try.prog ops Q rest (a.put o.dst (.slice A'' (n + m) c'')) w') : wpList Try.prog ops Q (o :: rest) a w := by
  obtain ⟨i0, hi, hz0, hz1, hz2⟩ := info_parts infoU
  refine wpList_append_x w hgd s x _ ho 31 i0 _ 1 4 Try.underlying22 hi hz0 hz1 hz2 rfl (by decide) r A n c (U xs) hs hown.1.1 hown.1.2 B A' m c' (U ys) hx hr.1 (one_U ys) (by unfold maxLen; omega) (by omega) ?_
  intro r' A'' c'' w' h2 h3 h4
  rw [← U_append] at h2
  exact h r' A'' c'' w' ⟨⟨h2, none_of_own h2⟩, fun x hx => by rcases List.mem_append.1 hx with hx | hx; exact hown.2 x hx; exact hr.2.2.2.2 x hx⟩ h3 h4
theorem appE {ops : Array Oper} {rest : List Oper} {o : Oper} {a : Act} {Q : Exit → Act → World → Prop} (hgd : o.guard = none) (s x : Operand)
    (ho : o.op = .call { callee := .builtin .append, args := #[s, x], argTypes := #[23, 23] }) (w : World)
    (r : Option Nat) (A : Option Addr) (n c : Nat) (xs : List Edg) (hs : a.eval s = .slice A n c) (hown : OwnE w r A n c xs)
    (B : Nat) (A' : Option Addr) (m c' : Nat) (ys : List Edg) (hx : a.eval x = .slice A' m c') (hr : RdE w B A' m c' ys) (hb : n + m ≤ 4398046511104)
    (h : ∀ r' A'' c'' w', OwnE w' r' A'' (n + m) c'' (xs ++ ys) → w.grownBy w' r → (r' = r ∨ ∀ g, r' = some g → w.heap.size ≤ g) → wpList Try.prog ops Q rest (a.put o.dst (.slice A'' (n + m) c'')) w') : wpList Try.prog ops Q (o :: rest) a w := by
  obtain ⟨i0, hi, hz0, hz1, hz2⟩ := info_parts infoE
  refine wpList_append_x w hgd s x _ ho 39 i0 _ 3 12 Try.underlying23 hi hz0 hz1 hz2 rfl (by decide) r A n c (Ed xs) hs hown.1.1 hown.1.2 B A' m c' (Ed ys) hx hr.1 (one_Ed ys) (by unfold maxLen; omega) (by omega) ?_
  intro r' A'' c'' w' h2 h3 h4
  rw [← Ed_append] at h2
  exact h r' A'' c'' w' ⟨⟨h2, none_of_own h2⟩, fun x hx => by rcases List.mem_append.1 hx with hx | hx; exact hown.2 x hx; exact hr.2.2.2.2 x hx⟩ h3 h4
theorem stepU {ops : Array Oper} {o : Oper} {a : Act} {K : Act → World → Prop} {Q : Exit → Act → World → Prop} {E : Prop} (hgd : o.guard = none) (s x : Operand)
    (ho : o.op = .call { callee := .builtin .append, args := #[s, x], argTypes := #[22, 22] }) (w : World)
    (r : Option Nat) (A : Option Addr) (n c : Nat) (xs : List Int) (hs : a.eval s = .slice A n c) (hown : OwnU w r A n c xs)
    (B : Nat) (A' : Option Addr) (m c' : Nat) (ys : List Int) (hx : a.eval x = .slice A' m c') (hr : RdU w B A' m c' ys) (hb : n + m ≤ 17592186044416)
    (h : ∀ r' A'' c'' w', OwnU w' r' A'' (n + m) c'' (xs ++ ys) → w.grownBy w' r → (r' = r ∨ ∀ g, r' = some g → w.heap.size ≤ g) → K (a.put o.dst (.slice A'' (n + m) c'')) w') :
    if Region.wanted o (yielded ops a.tmps) = true then Oper.wp Try.prog o a w K Q else E := by
  obtain ⟨i0, hi, hz0, hz1, hz2⟩ := info_parts infoU
  refine step_append_x w hgd s x _ ho 31 i0 _ 1 4 Try.underlying22 hi hz0 hz1 hz2 rfl (by decide) r A n c (U xs) hs hown.1.1 hown.1.2 B A' m c' (U ys) hx hr.1 (one_U ys) (by unfold maxLen; omega) (by omega) ?_
  intro r' A'' c'' w' h2 h3 h4
  rw [← U_append] at h2
  exact h r' A'' c'' w' ⟨⟨h2, none_of_own h2⟩, fun x hx => by rcases List.mem_append.1 hx with hx | hx; exact hown.2 x hx; exact hr.2.2.2.2 x hx⟩ h3 h4
/-- One more at the end: the translation lays it in a block of its own first. -/
theorem RdU.one {w : World} {g : Nat} {x : Int} (h : Blk w g 31 #[.int .u32 x]) (hx : 0 ≤ x ∧ x < 4294967296) : RdU w w.heap.size (some ⟨g, 0, none⟩) 1 1 [x] := by
  refine ⟨⟨rfl, fun _ => ⟨_, rfl, h.lt, fun j u hu => ?_⟩⟩, Nat.le_refl _, by omega, (fun h => by cases h), by intro y hy; simp at hy; subst hy; exact hx⟩
  rw [Addr.add_lit, Nat.zero_add, h.cell, ← hu]; simp [U]
theorem RdE.one {w : World} {g : Nat} {x : Edg} (h : Blk w g 39 #[.int .u32 x.1, .int .u32 x.2.1, .int .u32 x.2.2]) (hx : (0 ≤ x.1 ∧ x.1 < 4294967296) ∧ (0 ≤ x.2.1 ∧ x.2.1 < 4294967296) ∧ (0 ≤ x.2.2 ∧ x.2.2 < 4294967296)) :
    RdE w w.heap.size (some ⟨g, 0, none⟩) 1 1 [x] := by
  refine ⟨⟨rfl, fun _ => ⟨_, rfl, h.lt, fun j u hu => ?_⟩⟩, Nat.le_refl _, by omega, (fun h => by cases h), by intro y hy; simp at hy; subst hy; exact hx⟩
  rw [Addr.add_lit, Nat.zero_add, h.cell, ← hu]; simp [Ed]

/-- 'append(out, y)' at []uint32, at []api.Edge. -/
theorem appU1 {ops : Array Oper} {rest : List Oper} {o : Oper} {a : Act} {Q : Exit → Act → World → Prop} (hgd : o.guard = none) (s x : Operand)
    (ho : o.op = .call { callee := .builtin .append, args := #[s, x], argTypes := #[22, 22] }) (w : World)
    (r : Option Nat) (A : Option Addr) (n c : Nat) (xs : List Int) (hs : a.eval s = .slice A n c) (hown : OwnU w r A n c xs)
    (g : Nat) (y : Int) (hx : a.eval x = .slice (some ⟨g, 0, none⟩) 1 1) (hblk : Blk w g 31 #[.int .u32 y]) (hy : 0 ≤ y ∧ y < 4294967296) (hb : n ≤ 8796093022208)
    (h : ∀ r' A'' c'' w', OwnU w' r' A'' (n + 1) c'' (xs ++ [y]) → w.grownBy w' r → (r' = r ∨ ∀ g, r' = some g → w.heap.size ≤ g) → wpList Try.prog ops Q rest (a.put o.dst (.slice A'' (n + 1) c'')) w') : wpList Try.prog ops Q (o :: rest) a w :=
  appU hgd s x ho w r A n c xs hs hown w.heap.size (some ⟨g, 0, none⟩) 1 1 [y] hx (RdU.one hblk hy) (by omega) h
theorem appE1 {ops : Array Oper} {rest : List Oper} {o : Oper} {a : Act} {Q : Exit → Act → World → Prop} (hgd : o.guard = none) (s x : Operand)
    (ho : o.op = .call { callee := .builtin .append, args := #[s, x], argTypes := #[23, 23] }) (w : World)
    (r : Option Nat) (A : Option Addr) (n c : Nat) (xs : List Edg) (hs : a.eval s = .slice A n c) (hown : OwnE w r A n c xs)
    (g : Nat) (y : Edg) (hx : a.eval x = .slice (some ⟨g, 0, none⟩) 1 1) (hblk : Blk w g 39 #[.int .u32 y.1, .int .u32 y.2.1, .int .u32 y.2.2]) (hy : (0 ≤ y.1 ∧ y.1 < 4294967296) ∧ (0 ≤ y.2.1 ∧ y.2.1 < 4294967296) ∧ (0 ≤ y.2.2 ∧ y.2.2 < 4294967296)) (hb : n ≤ 2199023255552)
    (h : ∀ r' A'' c'' w', OwnE w' r' A'' (n + 1) c'' (xs ++ [y]) → w.grownBy w' r → (r' = r ∨ ∀ g, r' = some g → w.heap.size ≤ g) → wpList Try.prog ops Q rest (a.put o.dst (.slice A'' (n + 1) c'')) w') : wpList Try.prog ops Q (o :: rest) a w :=
  appE hgd s x ho w r A n c xs hs hown w.heap.size (some ⟨g, 0, none⟩) 1 1 [y] hx (RdE.one hblk hy) (by omega) h

/-- A [][]uint32 that reads as a list of lists. -/
def hdV (h : Option Addr × Nat × Nat) : Value := .slice h.1 h.2.1 h.2.2
def RdUU (w : World) (B : Nat) (A : Option Addr) (n c : Nat) (xss : List (List Int)) : Prop :=
  ∃ hs : List (Option Addr × Nat × Nat), Reads w B 1 A n (hs.map hdV) ∧ n ≤ c ∧ c ≤ 9223372036854775807 ∧ (A = none → c = 0) ∧ hs.length = xss.length ∧
    ∀ (j : Nat) (h : Option Addr × Nat × Nat) (xs : List Int), hs[j]? = some h → xss[j]? = some xs → RdU w B h.1 h.2.1 h.2.2 xs
section
variable {w w' : World} {B B' n c : Nat} {A : Option Addr} {xss : List (List Int)}
theorem RdUU.len (h : RdUU w B A n c xss) : xss.length = n := by obtain ⟨hs, h1, _, _, _, h2, _⟩ := h; have := h1.1; rw [List.length_map] at this; omega
theorem RdUU.bd (h : RdUU w B A n c xss) : n ≤ c ∧ c ≤ 9223372036854775807 := by obtain ⟨hs, _, h1, h2, _⟩ := h; exact ⟨h1, h2⟩
theorem RdUU.below (h : RdUU w B A n c xss) (hb : Below B w w') : RdUU w' B A n c xss := by
  obtain ⟨hs, h1, h2, h3, h4, h5, h6⟩ := h
  exact ⟨hs, h1.below hb, h2, h3, h4, h5, fun j h xs a b => (h6 j h xs a b).below hb⟩
theorem RdUU.more (h : RdUU w B A n c xss) (hB : B ≤ B') : RdUU w B' A n c xss := by
  obtain ⟨hs, h1, h2, h3, h4, h5, h6⟩ := h
  exact ⟨hs, h1.more hB, h2, h3, h4, h5, fun j h xs a b => (h6 j h xs a b).more hB⟩
theorem RdUU.drewN (h : RdUU w B A n c xss) (q : Nat) : RdUU (w.drewN q) B A n c xss := h
theorem RdUU.at_ {k : Nat} (h : RdUU w B A n c xss) (hk : k < n) :
    ∃ ad xs A' n' c', A = some ad ∧ ad.block < B ∧ xss[k]? = some xs ∧ w.cell? (ad.add k) = some (.slice A' n' c') ∧ RdU w B A' n' c' xs := by
  have hl := h.len
  obtain ⟨hs, h1, h2, h3, h4, h5, h6⟩ := h
  obtain ⟨ad, e, hb, hc⟩ := h1.2 (by omega)
  have e1 : hs[k]? = some (hs[k]'(by omega)) := List.getElem?_eq_getElem (by omega)
  have e2 : xss[k]? = some (xss[k]'(by omega)) := List.getElem?_eq_getElem (by omega)
  refine ⟨ad, _, _, _, _, e, hb, e2, hc k _ (by rw [List.getElem?_map, e1]; rfl), h6 k _ _ e1 e2⟩
end
/-- One new row of three slices, as a variadic call of three lays them. -/
theorem RdUU.three {w : World} {g B : Nat} {t : TypeId} {h0 h1 h2 : Option Addr × Nat × Nat} {x0 x1 x2 : List Int} (h : Blk w g t #[hdV h0, hdV h1, hdV h2]) (hg : g < B)
    (a0 : RdU w B h0.1 h0.2.1 h0.2.2 x0) (a1 : RdU w B h1.1 h1.2.1 h1.2.2 x1) (a2 : RdU w B h2.1 h2.2.1 h2.2.2 x2) : RdUU w B (some ⟨g, 0, none⟩) 3 3 [x0, x1, x2] := by
  refine ⟨[h0, h1, h2], ⟨rfl, fun _ => ⟨_, rfl, hg, fun j u hu => ?_⟩⟩, Nat.le_refl _, by omega, (fun h => by cases h), rfl, fun j h xs e1 e2 => ?_⟩
  · rw [Addr.add_lit, Nat.zero_add, h.cell, ← hu]; simp
  · match j, e1, e2 with
    | 0, e1, e2 => simp at e1 e2; subst e1; subst e2; exact a0
    | 1, e1, e2 => simp at e1 e2; subst e1; subst e2; exact a1
    | 2, e1, e2 => simp at e1 e2; subst e1; subst e2; exact a2
    | k + 3, e1, e2 => simp at e1

/-- Pieces of a slice that came in, as Go cuts them. -/
theorem Reads.cut {w : World} {B size n cap k : Nat} {A : Option Addr} {xs : List Value} (h : Reads w B size A n xs) (hk : k ≤ n) (hc : n ≤ cap) :
    Reads w B size (if cap = k then A else A.map (·.add (k * size))) (n - k) (xs.drop (k * size)) := by
  refine ⟨by rw [List.length_drop, h.1, Nat.sub_mul], fun hn => ?_⟩
  obtain ⟨ad, rfl, hb, hcell⟩ := h.2 (by omega)
  rw [if_neg (by omega)]
  refine ⟨ad.add (k * size), rfl, by rw [block_of_add]; exact hb, fun j u hu => ?_⟩
  rw [add_of_add]
  exact hcell _ u (by rw [← hu, List.getElem?_drop])
theorem U_drop (xs : List Int) (k : Nat) : U (xs.drop k) = (U xs).drop k := by simp [U]
theorem U_take (xs : List Int) (k : Nat) : U (xs.take k) = (U xs).take k := by simp [U]
theorem RdU.cut {w : World} {B n c k : Nat} {A : Option Addr} {xs : List Int} (h : RdU w B A n c xs) (hk : k ≤ n) :
    RdU w B (if c = k then A else A.map (·.add k)) (n - k) (c - k) (xs.drop k) := by
  obtain ⟨h1, h2, h3, h4, h5⟩ := h
  have := h1.cut hk h2
  rw [Nat.mul_one, ← U_drop] at this
  refine ⟨this, by omega, by omega, fun e => ?_, fun x hx => h5 x (List.mem_of_mem_drop hx)⟩
  split at e
  · omega
  · cases A with
    | none => have := h4 rfl; omega
    | some a => cases e
theorem RdU.cutTo {w : World} {B n c k : Nat} {A : Option Addr} {xs : List Int} (h : RdU w B A n c xs) (hk : k ≤ n) : RdU w B A k c (xs.take k) := by
  obtain ⟨h1, h2, h3, h4, h5⟩ := h
  refine ⟨⟨by rw [U_take, List.length_take, h1.1]; omega, fun hn => ?_⟩, by omega, h3, h4, fun x hx => h5 x (List.mem_of_mem_take hx)⟩
  obtain ⟨ad, e, hb, hc⟩ := h1.2 (by omega)
  refine ⟨ad, e, hb, fun j u hu => hc j u ?_⟩
  rw [U_take] at hu
  rw [List.getElem?_take] at hu
  split at hu
  · exact hu
  · cases hu
end Go.Proofs.Ytklmckbpbloonaa

namespace Go.Proofs.Ytklmckbpbloonaa
open Go.RowKit

def dOf (id e : Int) : Int := (2 * id) % 4294967296 + e
def twinD (d : Int) : Int := if d % 2 = 0 then d + 1 else d - 1

theorem xor_one (n : Nat) : n ^^^ 1 = if n % 2 = 0 then n + 1 else n - 1 := by
  have h1 : (n ^^^ 1) / 2 = n / 2 := by rw [Nat.xor_div_two]; simp
  have h2 : (n ^^^ 1).testBit 0 = !(n.testBit 0) := by rw [Nat.testBit_xor]; simp
  simp only [Nat.testBit_zero] at h2
  split
  · rename_i h
    have : (n ^^^ 1) % 2 = 1 := by
      have h3 : decide (n % 2 = 1) = false := by simp [h]
      rw [h3] at h2; simpa using h2
    omega
  · rename_i h
    have : ¬ (n ^^^ 1) % 2 = 1 := by
      have h3 : decide (n % 2 = 1) = true := by simp; omega
      rw [h3] at h2; simpa using h2
    omega
theorem or_one (n : Nat) (h : n % 2 = 0) : n ||| 1 = n + 1 := by
  have h1 : (n ||| 1) / 2 = n / 2 := by rw [Nat.or_div_two]; simp
  have h2 : (n ||| 1) % 2 = 1 := Nat.or_mod_two_eq_one.2 (.inr rfl)
  omega
theorem and_i64_01 : bits .and .i64 0 1 = 0 := by decide
theorem and_i64_11 : bits .and .i64 1 1 = 1 := by decide

set_option maxHeartbeats 400000 in
theorem dartOf0 (id : Int) (w : World) :
    Calls Try.prog 62 #[.int .u32 id, .int .i64 0] w fun e w' => e = .returned (.int .u32 (dOf id 0)) ∧ w = w' := by
  go_enter Try.func62, Try.ntmps62
  go_wp2
  go_ret
  refine ⟨congrArg Ending.returned (congrArg (Value.int .u32) ?_), rfl⟩
  rw [and_i64_01]
  rw [u32_or _ _ (by omega) (by omega) (by omega) (by omega)]
  unfold dOf
  simp
  omega
set_option maxHeartbeats 400000 in
theorem dartOf1 (id : Int) (w : World) :
    Calls Try.prog 62 #[.int .u32 id, .int .i64 1] w fun e w' => e = .returned (.int .u32 (dOf id 1)) ∧ w = w' := by
  go_enter Try.func62, Try.ntmps62
  go_wp2
  go_ret
  refine ⟨congrArg Ending.returned (congrArg (Value.int .u32) ?_), rfl⟩
  rw [and_i64_11]
  rw [u32_or _ _ (by omega) (by omega) (by omega) (by omega)]
  unfold dOf
  show ((_ ||| 1 : Nat) : Int) = _
  rw [or_one _ (by omega)]
  omega
set_option maxHeartbeats 400000 in
theorem twin_any (d : Int) (w : World) (h : 0 ≤ d ∧ d < 4294967296) :
    Calls Try.prog 119 #[.int .u32 d] w fun e w' => e = .returned (.int .u32 (twinD d)) ∧ w = w' := by
  go_enter Try.func119, Try.ntmps119
  go_wp2
  go_ret
  refine ⟨congrArg Ending.returned (congrArg (Value.int .u32) ?_), rfl⟩
  rw [u32_xor _ _ h.1 h.2 (by omega) (by omega)]
  show ((_ ^^^ 1 : Nat) : Int) = _
  rw [xor_one]
  unfold twinD
  split <;> split <;> omega
set_option maxHeartbeats 400000 in
theorem dedge_any (d : Int) (w : World) :
    Calls Try.prog 157 #[.int .u32 d] w fun e w' => e = .returned (.int .u32 (d / 2)) ∧ w = w' := by
  go_enter Try.func157, Try.ntmps157
  go_wp2
  go_ret
  exact ⟨rfl, rfl⟩

theorem OwnU.empty (w : World) : OwnU (w.alloc (.cells #[] 31)) (some w.heap.size) (some ⟨w.heap.size, 0, none⟩) 0 0 [] :=
  ⟨⟨⟨Nat.le_refl _, by omega, by simp [U], rfl, #[], heap_alloc_new w _, rfl, rfl⟩, fun h => by cases h⟩, by intro x hx; simp at hx⟩
theorem OwnE.empty (w : World) : OwnE (w.alloc (.cells #[] 39)) (some w.heap.size) (some ⟨w.heap.size, 0, none⟩) 0 0 [] :=
  ⟨⟨⟨Nat.le_refl _, by omega, by simp [Ed], rfl, #[], heap_alloc_new w _, rfl, rfl⟩, fun h => by cases h⟩, by intro x hx; simp at hx⟩
/-- Behind an append the old memory stands, where the row was the call's own. -/
theorem below_grown {B : Nat} {a w w' : World} {r : Option Nat} (h : Below B a w) (hg : w.grownBy w' r) (hB : B ≤ w.heap.size) (hr : ∀ g, r = some g → B ≤ g) : Below B a w' := h.grown hg hB hr
theorem below_drew1 {B : Nat} {w w' : World} (h : Below B w.drew w') : Below B w w' := ⟨h.os, h.tape, h.output, h.size, h.block⟩
theorem new_row {B : Nat} {w : World} {r r' : Option Nat} (h : r' = r ∨ ∀ g, r' = some g → w.heap.size ≤ g) (hr : ∀ g, r = some g → B ≤ g) (hB : B ≤ w.heap.size) : ∀ g, r' = some g → B ≤ g := by
  intro g hg
  rcases h with rfl | h
  · exact hr g hg
  · exact Nat.le_trans hB (h g hg)

set_option maxHeartbeats 400000 in
theorem cloneU (B : Nat) (A : Option Addr) (n c : Nat) (xs : List Int) (w : World) (h : RdU w B A n c xs) (hn : n ≤ 17592186044416) (hB : B ≤ w.heap.size) :
    Calls Try.prog 63 #[.slice A n c] w fun e w' => ∃ r A' c', e = .returned (.slice A' n c') ∧ OwnU w' r A' n c' xs ∧ Below w.heap.size w w' ∧ (∀ g, r = some g → w.heap.size ≤ g) := by
  have q22 : ∀ (w : World) (a : Option Addr) (n c n' c' : Nat), (binOp .eql 22 (.slice a n c) (.slice none n' c')).run Try.prog w = .ok (.bool a.isNone) w := fun w a n c n' c' => Lib.run_eql_slice_nil w _ _ a n c n' c' Try.underlying22
  have HL := Lib.hid h.len
  cases A with
  | none =>
    have hc := h.2.2.2.1 rfl
    have hnc := h.2.1
    have hn0 : n = 0 := by omega
    subst hn0
    have hx : xs = [] := List.eq_nil_of_length_eq_zero HL.out
    subst hx
    clear hc hnc
    go_enter Try.func63, Try.ntmps63
    go_wp2
    go_ret
    exact ⟨none, none, 0, rfl, OwnU.nil_ _ _, Below.refl _ _, by simp⟩
  | some ad =>
    go_enter Try.func63, Try.ntmps63
    have hb : Below w.heap.size w (w.alloc (.cells #[] 31)) := (Below.refl _ _).alloc (Nat.le_refl _) _
    have HR := Lib.hid (h.below (hb.mono hB))
    have HE := Lib.hid (OwnU.empty w)
    go_wp2_with (at_builtin; refine appU rfl _ _ rfl _ _ _ _ _ _ rfl HE.out B _ _ _ xs rfl HR.out (by omega) ?_; intro r' A'' c'' w' h2 h3 h4)
    simp only [Nat.zero_add, List.nil_append] at h2
    go_wp2
    go_ret
    refine ⟨r', A'', c'', by simp, h2, hb.grown h3 (by simp) (by simp), new_row h4 (by simp) (by simp)⟩

set_option maxHeartbeats 400000 in
theorem cloneE (B : Nat) (A : Option Addr) (n c : Nat) (xs : List Edg) (w : World) (h : RdE w B A n c xs) (hn : n ≤ 4398046511104) (hB : B ≤ w.heap.size) :
    Calls Try.prog 79 #[.slice A n c] w fun e w' => ∃ r A' c', e = .returned (.slice A' n c') ∧ OwnE w' r A' n c' xs ∧ Below w.heap.size w w' ∧ (∀ g, r = some g → w.heap.size ≤ g) := by
  have q22 : ∀ (w : World) (a : Option Addr) (n c n' c' : Nat), (binOp .eql 23 (.slice a n c) (.slice none n' c')).run Try.prog w = .ok (.bool a.isNone) w := fun w a n c n' c' => Lib.run_eql_slice_nil w _ _ a n c n' c' Try.underlying23
  have HL := Lib.hid h.len
  cases A with
  | none =>
    have hc := h.2.2.2.1 rfl
    have hnc := h.2.1
    have hn0 : n = 0 := by omega
    subst hn0
    have hx : xs = [] := List.eq_nil_of_length_eq_zero HL.out
    subst hx
    clear hc hnc
    go_enter Try.func79, Try.ntmps79
    go_wp2
    go_ret
    exact ⟨none, none, 0, rfl, OwnE.nil_ _ _, Below.refl _ _, by simp⟩
  | some ad =>
    go_enter Try.func79, Try.ntmps79
    have hb : Below w.heap.size w (w.alloc (.cells #[] 39)) := (Below.refl _ _).alloc (Nat.le_refl _) _
    have HR := Lib.hid (h.below (hb.mono hB))
    have HE := Lib.hid (OwnE.empty w)
    go_wp2_with (at_builtin; refine appE rfl _ _ rfl _ _ _ _ _ _ rfl HE.out B _ _ _ xs rfl HR.out (by omega) ?_; intro r' A'' c'' w' h2 h3 h4)
    simp only [Nat.zero_add, List.nil_append] at h2
    go_wp2
    go_ret
    refine ⟨r', A'', c'', by simp, h2, hb.grown h3 (by simp) (by simp), new_row h4 (by simp) (by simp)⟩

set_option maxRecDepth 100000 in
set_option maxHeartbeats 1000000 in
/-- append(slices.Clone(l[i:]), l[:i]...) -/
theorem from_any (B : Nat) (A : Option Addr) (n c i : Nat) (xs : List Int) (w : World) (h : RdU w B A n c xs) (hn : n ≤ 17592186044416) (hB : B ≤ w.heap.size) (hi : i ≤ n) :
    Calls Try.prog 115 #[.slice A n c, .int .i64 i] w fun e w' => ∃ r A' c', e = .returned (.slice A' n c') ∧ OwnU w' r A' n c' (xs.drop i ++ xs.take i) ∧ Below w.heap.size w w' ∧ (∀ g, r = some g → w.heap.size ≤ g) := by
  obtain ⟨hnc, hc⟩ := h.bd
  have hcut := h.cut hi
  have hcutTo := h.cutTo hi
  have b1 : (i : Int) ≤ c := by omega
  have b2 : (i : Int) ≤ n := by omega
  have b3 : i ≤ c := by omega
  go_enter Try.func115, Try.ntmps115
  go_wp2_with fail
  go_region_law (first
    | (go_simp; go_at_call 63; refine (cloneU B _ _ _ (xs.drop i) _ hcut.drew (by omega) hB).mono ?_; rintro e w1 ⟨r1, A1, c1, rfl, h1, h2, h3⟩; have hl := hcutTo.drew.below (h2.mono hB))
    | (refine stepU rfl _ _ rfl _ _ _ _ _ _ rfl h1 B _ _ _ _ rfl hl (by omega) ?_; intro r' A' c' w2 k2 k3 k4; simp only [Nat.sub_add_cancel hi] at k2 ⊢))
  go_wp2
  all_goals
    go_ret
    exact ⟨r', A', c', by simp, k2, (below_drew1 h2).grown k3 h2.size h3, new_row k4 h3 h2.size⟩

def minFrom : Int → List Int → Int
  | m, [] => m
  | m, y :: ys => minFrom (if y < m then y else m) ys
def minL (xs : List Int) : Int := minFrom (xs.headD 0) (xs.drop 1)
theorem minFrom_le (m : Int) (xs : List Int) : minFrom m xs ≤ m ∧ (∀ x ∈ xs, minFrom m xs ≤ x) ∧ (minFrom m xs = m ∨ minFrom m xs ∈ xs) := by
  induction xs generalizing m with
  | nil => simp [minFrom]
  | cons y ys ih =>
    have := ih (if y < m then y else m)
    simp only [minFrom]
    split at this <;> rename_i h
    · rw [if_pos h]; refine ⟨by omega, fun x hx => ?_, ?_⟩
      · rcases List.mem_cons.1 hx with rfl | hx
        · exact this.1
        · exact this.2.1 x hx
      · rcases this.2.2 with e | e
        · right; rw [e]; exact List.mem_cons_self
        · right; exact List.mem_cons_of_mem _ e
    · rw [if_neg h]; refine ⟨by omega, fun x hx => ?_, ?_⟩
      · rcases List.mem_cons.1 hx with rfl | hx
        · omega
        · exact this.2.1 x hx
      · rcases this.2.2 with e | e
        · left; exact e
        · right; exact List.mem_cons_of_mem _ e
theorem minL_mem {xs : List Int} (h : xs ≠ []) : minL xs ∈ xs ∧ ∀ x ∈ xs, minL xs ≤ x := by
  cases xs with
  | nil => exact absurd rfl h
  | cons y ys =>
    have := minFrom_le y ys
    simp only [minL, List.headD_cons, List.drop_succ_cons, List.drop_zero]
    refine ⟨?_, fun x hx => ?_⟩
    · rcases this.2.2 with e | e
      · rw [e]; exact List.mem_cons_self
      · exact List.mem_cons_of_mem _ e
    · rcases List.mem_cons.1 hx with rfl | hx
      · exact this.1
      · exact this.2.1 x hx

set_option maxHeartbeats 400000 in
theorem min_any (B : Nat) (A : Option Addr) (n c : Nat) (xs : List Int) (w : World) (h : RdU w B A n c xs) (h0 : 0 < n) :
    Calls Try.prog 116 #[.slice A n c] w fun e w' => e = .returned (.int .u32 (minL xs)) ∧ w = w' := by
  have HL := Lib.hid h.len
  obtain ⟨hn, hc⟩ := h.bd
  obtain ⟨ad, x, rfl, _, hx, _, hcell⟩ := h.at_ h0
  rw [Addr.add_zero'] at hcell
  have h1 : ¬ (n : Int) < 1 := by omega
  have h2 : (0 : Int) < n := by omega
  have HX := Lib.hid hx
  clear hx
  have HM : Hid (minL xs = minFrom x (xs.drop 1)) := by
    show minL xs = _
    unfold minL; rw [List.headD_eq_head?_getD, List.head?_eq_getElem?, HX.out]; rfl
  go_enter Try.func116, Try.ntmps116
  go_wp2
  go_loop [3, 4] (fun m i => ∃ (k : Nat) (y : Int), 1 ≤ k ∧ k ≤ n ∧ i = .int .i64 k ∧ m = .int .u32 y ∧ Hid (minFrom y (xs.drop k) = minL xs)) (fun _ i => n - (intOf i).toNat)
  case atStart => exact ⟨1, x, Nat.le_refl _, by omega, rfl, rfl, HM.out.symm⟩
  case round =>
    obtain ⟨k, y, hk1, hk, rfl, rfl, HJ⟩ := hrel
    clear hcell
    by_cases hlt : k < n
    · obtain ⟨_, z, he, _, hz, _, hcell⟩ := h.at_ hlt
      injection he with he
      subst he
      have HZ := Lib.hid hz
      clear hz
      go_wp2
      go_round
      case rel =>
        refine ⟨k + 1, _, by omega, by omega, by go_num, rfl, ?_⟩
        show minFrom _ (xs.drop (k + 1)) = minL xs
        rw [← HJ.out, drop_at HZ.out]; rfl
      case measure => simp [intOf]; omega
    · go_wp2
      go_ret
      refine ⟨congrArg Ending.returned (congrArg (Value.int .u32) ?_), rfl⟩
      rw [← HJ.out, List.drop_of_length_le (by have := HL.out; omega)]; rfl

theorem idx_nat {xs : List Int} {x : Int} (h : x ∈ xs) : ∃ k : Nat, idx xs x = k ∧ k < xs.length := ⟨xs.idxOf x, by simp [idx, h], List.idxOf_lt_length_of_mem h⟩
def normL (xs : List Int) : List Int := xs.drop (idx xs (minL xs)).toNat ++ xs.take (idx xs (minL xs)).toNat

set_option maxHeartbeats 400000 in
theorem normal_any (B : Nat) (A : Option Addr) (n c : Nat) (xs : List Int) (w : World) (h : RdU w B A n c xs) (hn : n ≤ 17592186044416) (hB : B ≤ w.heap.size) :
    Calls Try.prog 91 #[.slice A n c] w fun e w' => ∃ r A' c', e = .returned (.slice A' n c') ∧ OwnU w' r A' n c' (normL xs) ∧ Below w.heap.size w w' ∧ (∀ g, r = some g → w.heap.size ≤ g) := by
  have HL := Lib.hid h.len
  by_cases h0 : n = 0
  · subst h0
    have hx : xs = [] := List.eq_nil_of_length_eq_zero HL.out
    subst hx
    go_enter Try.func91, Try.ntmps91
    go_wp2
    go_ret
    exact ⟨none, none, 0, rfl, OwnU.nil_ _ _, Below.refl _ _, by simp⟩
  · have h0' : ((n : Int) == 0) = false := by simp [h0]
    have hp : 0 < n := by omega
    obtain ⟨k, hk, hkl⟩ := idx_nat (minL_mem (xs := xs) (by intro e; subst e; have := HL.out; simp at this; omega)).1
    have HK := Lib.hid hk
    clear hk
    go_enter Try.func91, Try.ntmps91
    go_wp2_with (first
      | (go_at_call 116; refine (min_any B _ _ _ xs _ h hp).mono ?_; rintro e w' ⟨rfl, rfl⟩)
      | (go_at_call 59; refine (index_any B _ _ _ xs _ _ h).mono ?_; rintro e w' ⟨rfl, rfl⟩; rw [HK.out])
      | (go_at_call 115; refine (from_any B _ _ _ k xs _ h hn hB (by have := HL.out; omega)).mono ?_; rintro e w' ⟨r, A', c', rfl, h1, h2, h3⟩))
    go_ret
    refine ⟨r, A', c', rfl, ?_, h2, h3⟩
    unfold normL; rw [HK.out]; exact h1

set_option maxRecDepth 100000 in
set_option maxHeartbeats 400000 in
/-- slices.Grow of nil. -/
theorem grow_nil (n : Nat) (w : World) (hn : n ≤ 17592186044416) :
    Calls Try.prog 167 #[.slice none 0 0, .int .i64 n] w fun e w' => ∃ r A' c', e = .returned (.slice A' 0 c') ∧ OwnU w' r A' 0 c' [] ∧ Below w.heap.size w w' ∧ (∀ g, r = some g → w.heap.size ≤ g) := by
  by_cases h0 : n = 0
  · subst h0
    go_enter Try.func167, Try.ntmps167
    go_wp2
    go_ret
    exact ⟨none, none, 0, rfl, OwnU.nil_ _ _, Below.refl _ _, by simp⟩
  · obtain ⟨i0, hi, hz0, hz1, hz2⟩ := info_parts infoU
    have hrz : ∀ ty, (Builtin.append_ #[22, 3] ty #[.slice none 0 0, .int .i64 (n : Int)]).run Try.prog w =
        .ok (.slice (some ⟨w.heap.size, 0, none⟩) n (grownCap w n 0 31)) (w.drew.alloc (.cells (#[] ++ Builtin.zeroCells #[.int .u32 0] n ++ Builtin.zeroCells #[.int .u32 0] (grownCap w n 0 31 - n)) 31)) := fun ty => by
      have h := Lib.run_append_grow_zeros (P := Try.prog) w 22 3 ty 31 i0 (.int .u32 0) .i64 .i64 Try.underlying22 Try.underlying3 hi hz0 none 0 0 [] (run_firstCells_none w.drew i0.size 0 0 0) n (by omega) (by rw [hz1]; decide) (by omega) (by omega)
        (by rw [hz2]; omega) (growslice_fits (by omega) (by rw [hz2]; omega))
      simp only [Nat.zero_add] at h
      exact h
    have hG : n ≤ grownCap w n 0 31 := grownCap_ge w _ _ _
    have hG63 : grownCap w n 0 31 ≤ 9223372036854775807 := by
      have := grownCap_le_maxLen w n 0 31 (by unfold maxLen; omega)
      unfold maxLen at this
      omega
    generalize grownCap w n 0 31 = G at hrz hG hG63
    have h1 : (0 : Int) < n := by omega
    have h2 : 0 < n := by omega
    generalize hC : (#[] ++ Builtin.zeroCells #[Value.int .u32 0] n ++ Builtin.zeroCells #[Value.int .u32 0] (G - n)) = C at hrz
    have HC : Hid (C.size = G) := by
      show C.size = G
      rw [← hC]; simp [Builtin.zeroCells]; omega
    clear hC
    go_enter Try.func167, Try.ntmps167
    go_wp2_with (at_builtin; refine Lib.wpList_append_run _ rfl _ _ _ _ rfl _ _ rfl rfl _ _ (hrz _) ?_)
    go_ret
    refine ⟨some w.heap.size, _, G, rfl, ⟨⟨⟨by omega, hG63, by simp [U], rfl, C, heap_alloc_new w.drew _, by rw [HC.out]; omega, by simp [U]⟩, fun h => by cases h⟩, by intro x hx; simp at hx⟩, ((Below.refl _ _).drew).alloc (Nat.le_refl _) _, by simp⟩

/-- The first k rows, one behind the other; how long. (Plain definitions: the walk's simp does not look behind them.) -/
def catTo (xss : List (List Int)) (k : Nat) : List Int := (xss.take k).flatten
def catN (xss : List (List Int)) (k : Nat) : Nat := (catTo xss k).length
theorem catTo_all (xss : List (List Int)) : catTo xss xss.length = xss.flatten := by unfold catTo; rw [List.take_length]
theorem catTo_succ {xss : List (List Int)} {k : Nat} {xs : List Int} (h : xss[k]? = some xs) : catTo xss (k + 1) = catTo xss k ++ xs := by
  unfold catTo; rw [take_at h, List.flatten_append, List.flatten_singleton]
theorem catN_succ {xss : List (List Int)} {k : Nat} {xs : List Int} (h : xss[k]? = some xs) : catN xss (k + 1) = catN xss k + xs.length := by
  unfold catN; rw [catTo_succ h, List.length_append]
theorem catN_le (xss : List (List Int)) (k : Nat) : catN xss k ≤ catN xss xss.length := by
  unfold catN
  rw [catTo_all]
  have : xss.flatten.length = (catTo xss k).length + (xss.drop k).flatten.length := by
    unfold catTo; rw [← List.length_append, ← List.flatten_append, List.take_append_drop]
  omega
set_option maxRecDepth 100000 in
set_option maxHeartbeats 400000 in
theorem concat_any (B : Nat) (A : Option Addr) (n c : Nat) (xss : List (List Int)) (w : World) (h : RdUU w B A n c xss) (hn : catN xss n ≤ 17592186044416) (hB : B ≤ w.heap.size) :
    Calls Try.prog 147 #[.slice A n c] w fun e w' => ∃ r A' c', e = .returned (.slice A' (catN xss n) c') ∧ OwnU w' r A' (catN xss n) c' (catTo xss n) ∧ Below w.heap.size w w' ∧ (∀ g, r = some g → w.heap.size ≤ g) := by
  have HL := Lib.hid h.len
  have HN := Lib.hid hn
  clear hn
  obtain ⟨hn, hc⟩ := h.bd
  have hle : ∀ k, catN xss k ≤ 17592186044416 := fun k => by have := catN_le xss k; have := HN.out; rw [HL.out] at *; omega
  have HLE := Lib.hid hle
  clear hle
  go_enter Try.func147, Try.ntmps147
  go_wp2
  go_loop [3, 11] (fun m i => ∃ k : Nat, k ≤ n ∧ i = .int .i64 k ∧ m = .int .i64 (catN xss k)) (fun _ i => n - (intOf i).toNat)
  case atStart => exact ⟨0, by omega, rfl, rfl⟩
  case round =>
    obtain ⟨k, hk, rfl, rfl⟩ := hrel
    by_cases hlt : k < n
    · obtain ⟨ad, xs, A', n', c', rfl, _, hx, hcell, hr⟩ := h.at_ hlt
      have HS : Hid (catN xss (k + 1) = catN xss k + n') := by show _ = _; rw [catN_succ hx, hr.len]
      have hle : catN xss k + n' ≤ 17592186044416 := by have := HLE.out (k + 1); rw [HS.out] at this; exact this
      have hneg : ¬ ((catN xss k : Int) + n' < 0) := by omega
      clear hx
      go_wp2
      go_round
      case rel => exact ⟨k + 1, by omega, by go_num, by rw [HS.out]; go_num⟩
      case measure => simp [intOf]; omega
    · obtain rfl : k = n := by omega
      have hNn := HLE.out k
      go_wp2_with (go_at_call 167; refine (grow_nil _ _ hNn).mono ?_; rintro e w1 ⟨r1, A1, c1, rfl, h1, h2, h3⟩)
      go_loopw [6, 27] (fun v i wr => ∃ (j : Nat) (r : Option Nat) (A' : Option Addr) (c' : Nat), j ≤ k ∧ i = .int .i64 j ∧ v = .slice A' (catN xss j) c' ∧ OwnU wr r A' (catN xss j) c' (catTo xss j) ∧ Below w.heap.size w wr ∧ (∀ g, r = some g → w.heap.size ≤ g)) (fun _ i _ => k - (intOf i).toNat)
      case atStart => exact ⟨0, r1, A1, c1, by omega, rfl, rfl, h1, h2, h3⟩
      case round =>
        obtain ⟨j, r, A', c', hj, rfl, rfl, hown, hbr, hrg⟩ := hrel
        clear h1 h2 h3
        have hq := h.below (hbr.mono hB)
        by_cases hlt : j < k
        · obtain ⟨ad, xs, A2, n2, c2, rfl, _, hx, hcell, hr⟩ := hq.at_ hlt
          have HX := Lib.hid hx
          clear hx
          have HS : Hid (catN xss (j + 1) = catN xss j + n2) := by show _ = _; rw [catN_succ HX.out, hr.len]
          have hle : catN xss j + n2 ≤ 17592186044416 := by have := HLE.out (j + 1); rw [HS.out] at this; exact this
          have HR := Lib.hid hr
          have HO := Lib.hid hown
          clear hr hown
          go_wp2_with (at_builtin; refine appU rfl _ _ rfl _ _ _ _ _ _ rfl HO.out B _ _ _ xs rfl HR.out hle ?_; intro r' A'' c'' w' k2 k3 k4)
          go_roundw
          case rel => exact ⟨j + 1, r', A'', c'', by omega, by go_num, by rw [HS.out], by rw [HS.out, catTo_succ HX.out]; exact k2, hbr.grown k3 hbr.size hrg, new_row k4 hrg hbr.size⟩
          case measure => simp [intOf]; omega
        · obtain rfl : j = k := by omega
          go_wp2
          go_ret
          exact ⟨r, A', c', rfl, hown, hbr, hrg⟩

theorem catTo_three (a b c : List Int) : catTo [a, b, c] 3 = a ++ (b ++ c) := by simp [catTo]
theorem catN_three (a b c : List Int) : catN [a, b, c] 3 = a.length + b.length + c.length := by simp [catN, catTo_three]; omega
def insAt (xs : List Int) (x : Int) : Nat := if idx xs x < 0 then xs.length else (idx xs x).toNat + 1
def insL (xs : List Int) (x : Int) (more : List Int) : List Int := normL (catTo [xs.take (insAt xs x), more, xs.drop (insAt xs x)] 3)

set_option maxRecDepth 100000 in
set_option maxHeartbeats 1000000 in
theorem insert_any (B : Nat) (A A' : Option Addr) (n c n' c' : Nat) (xs ys : List Int) (x : Int) (w : World) (h : RdU w B A n c xs) (h' : RdU w B A' n' c' ys) (hn : n + n' ≤ 17592186044416) (hB : B ≤ w.heap.size) :
    Calls Try.prog 118 #[.slice A n c, .int .u32 x, .slice A' n' c'] w fun e w' => ∃ r A'' m c'', e = .returned (.slice A'' m c'') ∧ OwnU w' r A'' m c'' (insL xs x ys) ∧ Below w.heap.size w w' ∧ (∀ g, r = some g → w.heap.size ≤ g) := by
  have HL := Lib.hid h.len
  have HL' := Lib.hid h'.len
  obtain ⟨hnc, hc⟩ := h.bd
  obtain ⟨hnc', hc'⟩ := h'.bd
  have HI : Hid (∃ j : Nat, insAt xs x = j ∧ j ≤ n ∧ (idx xs x = (j : Int) - 1 ∧ 1 ≤ j ∨ idx xs x = -1 ∧ j = n)) := by
    refine ⟨_, rfl, ?_⟩
    have := HL.out
    unfold insAt
    rcases idx_lo xs x with h2 | h2
    · split <;> omega
    · rw [if_pos (by omega)]; omega
  obtain ⟨j, hj, hjn, hcase⟩ := HI.out
  have HJ := Lib.hid hj
  clear hj HI
  have b1 : (j : Int) ≤ c := by omega
  have b2 : (j : Int) ≤ n := by omega
  have b3 : j ≤ c := by omega
  have hcut := h.cut hjn
  have hcutTo := h.cutTo hjn
  have hm : catN [xs.take j, ys, xs.drop j] 3 ≤ 17592186044416 := by
    rw [catN_three, hcut.len, hcutTo.len, h'.len]; omega
  have fin : ∀ (w1 w2 : World) (r : Option Nat) (A2 : Option Addr) (c2 : Nat), Below w.heap.size w w1 → OwnU w2 r A2 (catN [xs.take j, ys, xs.drop j] 3) c2 (normL (catTo [xs.take j, ys, xs.drop j] 3)) → Below w1.heap.size w1 w2 → (∀ g, r = some g → w1.heap.size ≤ g) →
      ∃ r A'' m c'', Ending.returned (.slice A2 (catN [xs.take j, ys, xs.drop j] 3) c2) = .returned (.slice A'' m c'') ∧ OwnU w2 r A'' m c'' (insL xs x ys) ∧ Below w.heap.size w w2 ∧ (∀ g, r = some g → w.heap.size ≤ g) := by
    intro w1 w2 r A2 c2 k1 k2 k3 k4
    refine ⟨r, A2, _, c2, rfl, ?_, k1.trans (k3.mono k1.size), fun g hg => Nat.le_trans k1.size (k4 g hg)⟩
    unfold insL; rw [HJ.out]; exact k2
  generalize hM : catN [xs.take j, ys, xs.drop j] 3 = M at hm fin
  have HM := Lib.hid hM
  clear hM
  have FIN := Lib.hid fin
  clear fin
  have hw1 : Below w.heap.size w (w.alloc (.cells #[.slice A j c, .slice A' n' c', .slice (if c = j then A else Option.map (fun x => x.add j) A) (n - j) (c - j)] 22)).drew := ((Below.refl _ _).alloc (Nat.le_refl _) _).drew
  have hUU : RdUU (w.alloc (.cells #[.slice A j c, .slice A' n' c', .slice (if c = j then A else Option.map (fun x => x.add j) A) (n - j) (c - j)] 22)).drew (w.heap.size + 1) (some ⟨w.heap.size, 0, none⟩) 3 3 [xs.take j, ys, xs.drop j] :=
    RdUU.three (h0 := (A, j, c)) (h1 := (A', n', c')) (h2 := (_, n - j, c - j)) (Blk.new w 22 _).drew (by omega) ((hcutTo.below (hw1.mono hB)).more (by omega)) ((h'.below (hw1.mono hB)).more (by omega)) ((hcut.below (hw1.mono hB)).more (by omega))
  have HUU := Lib.hid hUU
  have HW1 := Lib.hid hw1
  have hm3 : Hid (catN [xs.take j, ys, xs.drop j] 3 ≤ 17592186044416) := by show _ ≤ _; rw [HM.out]; exact hm
  clear hUU hw1 hcut hcutTo
  have q1 : IntKind.i64.wrap (j : Int) = j := IntWalk.i64_in _ (by omega)
  rcases hcase with ⟨hc1, hc2⟩ | ⟨hc1, rfl⟩
  · have HC := Lib.hid hc1
    clear hc1
    have hneg : ¬ ((j : Int) - 1 < 0) := by omega
    go_enter Try.func118, Try.ntmps118
    go_wp2_with (go_at_call 59; refine (index_any B _ _ _ xs _ _ h).mono ?_; rintro e w' ⟨rfl, rfl⟩; rw [HC.out])
    go_region_law (first
        | (go_simp; go_at_call 147; refine (concat_any (w.heap.size + 1) _ 3 3 [xs.take j, ys, xs.drop j] _ HUU.out hm3.out (by simp)).mono ?_; rintro e w2 ⟨r2, A2, c2, rfl, k1, k2, k3⟩; simp only [HM.out] at k1 ⊢)
        | (go_simp; go_at_call 91; refine (normal_any _ _ _ _ _ _ k1.rd hm (Nat.le_refl _)).mono ?_; rintro e w3 ⟨r3, A3, c3, rfl, m1, m2, m3⟩))
    go_wp2
    all_goals
      go_ret
      exact FIN.out _ _ _ _ _ (HW1.out.trans (k2.mono (by simp))) m1 m2 m3
  · have HC := Lib.hid hc1
    have huu := HUU.out
    have hw1 := HW1.out
    rw [Nat.sub_self] at huu hw1
    clear hc1 HUU HW1
    have HUU := Lib.hid huu
    have HW1 := Lib.hid hw1
    clear huu hw1
    have hneg : ((-1 : Int) < 0) := by omega
    go_enter Try.func118, Try.ntmps118
    go_wp2_with (go_at_call 59; refine (index_any B _ _ _ xs _ _ h).mono ?_; rintro e w' ⟨rfl, rfl⟩; rw [HC.out])
    go_region_law (first
        | (go_simp; go_at_call 147; refine (concat_any (w.heap.size + 1) _ 3 3 [xs.take j, ys, xs.drop j] _ HUU.out hm3.out (by simp)).mono ?_; rintro e w2 ⟨r2, A2, c2, rfl, k1, k2, k3⟩; simp only [HM.out] at k1 ⊢)
        | (go_simp; go_at_call 91; refine (normal_any _ _ _ _ _ _ k1.rd hm (Nat.le_refl _)).mono ?_; rintro e w3 ⟨r3, A3, c3, rfl, m1, m2, m3⟩))
    go_wp2
    all_goals
      go_ret
      exact FIN.out _ _ _ _ _ (HW1.out.trans (k2.mono (by simp))) m1 m2 m3
end Go.Proofs.Ytklmckbpbloonaa

namespace Go.Proofs.Ytklmckbpbloonaa
open Go.RowKit

theorem hasB_idx (xs : List Int) (x : Int) : decide (0 ≤ idx xs x) = hasB xs x := by
  unfold hasB idx
  by_cases h : x ∈ xs
  · rw [if_pos h]; simp [h]
  · rw [if_neg h]; simp [h]
theorem contains_any (B : Nat) (A : Option Addr) (n c : Nat) (xs : List Int) (x : Int) (w : World) (h : RdU w B A n c xs) :
    Calls Try.prog 52 #[.slice A n c, .int .u32 x] w fun e w' => e = .returned (.bool (hasB xs x)) ∧ w = w' := by
  go_enter Try.func52, Try.ntmps52
  go_wp2_with (go_at_call 59; refine (index_any B _ _ _ xs _ _ h).mono ?_; rintro e w' ⟨rfl, rfl⟩)
  go_ret
  exact ⟨ret_bool (by rw [← hasB_idx]), rfl⟩
theorem has1_any (B : Nat) (A : Option Addr) (n c : Nat) (xs : List Int) (x : Int) (w : World) (h : RdU w B A n c xs) :
    Calls Try.prog 66 #[.slice A n c, .int .u32 x] w fun e w' => e = .returned (.bool (hasB xs x)) ∧ w = w' := by
  go_enter Try.func66, Try.ntmps66
  go_wp2_with (go_at_call 52; refine (contains_any B _ _ _ xs _ _ h).mono ?_; rintro e w' ⟨rfl, rfl⟩)
  go_ret
  exact ⟨rfl, rfl⟩
/-- What is kept of a row, behind k. -/
def fltTo (xs : List Int) (p : Int → Bool) (k : Nat) : List Int := (xs.take k).filter p
def fltN (xs : List Int) (p : Int → Bool) (k : Nat) : Nat := (fltTo xs p k).length
theorem fltTo_succ {xs : List Int} {p : Int → Bool} {k : Nat} {x : Int} (h : xs[k]? = some x) : fltTo xs p (k + 1) = fltTo xs p k ++ if p x then [x] else [] := by
  unfold fltTo; rw [take_at h, List.filter_append]
  congr 1
  cases hp : p x <;> simp [hp]
theorem fltN_succ {xs : List Int} {p : Int → Bool} {k : Nat} {x : Int} (h : xs[k]? = some x) : fltN xs p (k + 1) = fltN xs p k + if p x then 1 else 0 := by
  unfold fltN; rw [fltTo_succ h]; cases hp : p x <;> simp
theorem fltN_le (xs : List Int) (p : Int → Bool) (k : Nat) : fltN xs p k ≤ k := by
  have h1 := List.length_filter_le p (xs.take k)
  have h2 := List.length_take_le k xs
  unfold fltN fltTo; omega
theorem fltTo_all (xs : List Int) (p : Int → Bool) {n : Nat} (hn : xs.length = n) : fltTo xs p n = xs.filter p := by subst hn; unfold fltTo; rw [List.take_length]
def pA (base theirs : List Int) (x : Int) : Bool := hasB theirs x || !hasB base x
def pB (base ours : List Int) (x : Int) : Bool := !hasB ours x && !hasB base x
def allL (base ours theirs : List Int) : List Int := ours.filter (pA base theirs) ++ theirs.filter (pB base ours)
def allTo (base ours theirs : List Int) (n m : Nat) : List Int := fltTo ours (pA base theirs) n ++ fltTo theirs (pB base ours) m
def allTN (base ours theirs : List Int) (n m : Nat) : Nat := fltN ours (pA base theirs) n + fltN theirs (pB base ours) m
theorem allTo_len (base ours theirs : List Int) (n m : Nat) : (allTo base ours theirs n m).length = allTN base ours theirs n m := by simp [allTo, allTN, fltN]
theorem allTo_all (base ours theirs : List Int) {n m : Nat} (hn : ours.length = n) (hm : theirs.length = m) : allTo base ours theirs n m = allL base ours theirs := by
  unfold allTo allL; rw [fltTo_all _ _ hn, fltTo_all _ _ hm]
theorem allTo_zero (base ours theirs : List Int) (n : Nat) : allTo base ours theirs n 0 = fltTo ours (pA base theirs) n := by simp [allTo, fltTo]
theorem allTN_zero (base ours theirs : List Int) (n : Nat) : allTN base ours theirs n 0 = fltN ours (pA base theirs) n := by simp [allTN, fltN, fltTo]
def allN (base ours theirs : List Int) : Nat := (allL base ours theirs).length
set_option maxRecDepth 100000 in
set_option maxHeartbeats 4000000 in
theorem all_any (B : Nat) (Ab Ao At : Option Addr) (nb cb no co nt ct : Nat) (base ours theirs : List Int) (w : World) (hb : RdU w B Ab nb cb base) (ho : RdU w B Ao no co ours) (ht : RdU w B At nt ct theirs) (hno : no ≤ 1000000) (hnt : nt ≤ 1000000) (hB : B ≤ w.heap.size) :
    Calls Try.prog 32 #[.agg #[.slice Ab nb cb, .slice Ao no co, .slice At nt ct]] w fun e w' => ∃ r A c, e = .returned (.slice A (allN base ours theirs) c) ∧ OwnU w' r A (allN base ours theirs) c (allL base ours theirs) ∧ Below w.heap.size w w' := by
  obtain ⟨hno', hco⟩ := ho.bd
  obtain ⟨hnt', hct⟩ := ht.bd
  have HLo := Lib.hid ho.len
  have HLt := Lib.hid ht.len
  have hX0 := Blk.new w 46 #[.slice Ab nb cb, .slice Ao no co, .slice At nt ct]
  have HB0 := Lib.hid ((Below.refl w.heap.size w).alloc (Nat.le_refl _) (.cells #[.slice Ab nb cb, .slice Ao no co, .slice At nt ct] 46))
  go_enter Try.func32, Try.ntmps32
  go_wp2_with fail
  go_loopw [4, 12] (fun o i wr => ∃ (k : Nat) (r : Option Nat) (A : Option Addr) (c : Nat), k ≤ no ∧ i = .int .i64 k ∧ o = .slice A (fltN ours (pA base theirs) k) c ∧ OwnU wr r A (fltN ours (pA base theirs) k) c (fltTo ours (pA base theirs) k) ∧ (∀ g, r = some g → w.heap.size < g) ∧ Below w.heap.size w wr ∧ Blk wr w.heap.size 46 #[.slice Ab nb cb, .slice Ao no co, .slice At nt ct]) (fun _ i _ => no - (intOf i).toNat)
  case atStart => exact ⟨0, none, none, 0, by omega, rfl, by simp [fltN, fltTo], by simpa [fltN, fltTo] using OwnU.nil_ _ _, by simp, HB0.out, hX0⟩
  case round =>
    clear hX0 HB0
    obtain ⟨k, r, A, c, hk, rfl, rfl, hown, hr, hbr, hX⟩ := hrel
    have hqb := hb.below (hbr.mono hB)
    have hqo := ho.below (hbr.mono hB)
    have hqt := ht.below (hbr.mono hB)
    obtain ⟨hx0, hx1, hx2⟩ := hX.c3
    have hsz := hX.lt
    have hle := fltN_le ours (pA base theirs) k
    by_cases hlt : k < no
    · obtain ⟨ad, x, rfl, hbl, hx, hxb, hc1⟩ := hqo.at_ hlt
      have HN : Hid (fltN ours (pA base theirs) (k + 1) = fltN ours (pA base theirs) k + if pA base theirs x then 1 else 0) := fltN_succ hx
      have HT : Hid (fltTo ours (pA base theirs) (k + 1) = fltTo ours (pA base theirs) k ++ if pA base theirs x then [x] else []) := fltTo_succ hx
      have HO := Lib.hid hown
      clear hx hown
      cases h1 : hasB theirs x
      · have H1 := Lib.hid h1
        clear h1
        cases h2 : hasB base x
        · have H2 := Lib.hid h2
          clear h2
          go_wp2_with (first
            | (go_at_call 66; refine (has1_any B _ _ _ theirs x _ hqt).mono ?_; rintro e w' ⟨rfl, rfl⟩; rw [H1.out])
            | (go_at_call 66; refine (has1_any B _ _ _ base x _ hqb).mono ?_; rintro e w' ⟨rfl, rfl⟩; rw [H2.out])
            | (at_builtin; refine appU1 rfl (.tmp 29) (.tmp 31) rfl _ r _ _ c (fltTo ours (pA base theirs) k) rfl (HO.out.alloc _) wr.heap.size x rfl (Blk.new _ _ _) hxb (by omega) ?_; intro r3 A3 c3 w3 m1 m2 m3))
          go_roundw
          case rel =>
            have hp : pA base theirs x = true := by simp [pA, H1.out, H2.out]
            have hr3 : ∀ g, r3 = some g → w.heap.size < g := fun g e => by
              rcases m3 with h3 | h3
              · exact hr g (by rw [← h3, e])
              · have := h3 g e; simp at this; omega
            exact ⟨k + 1, r3, A3, c3, by omega, by go_num, by rw [HN.out, hp]; rfl, by rw [HN.out, HT.out, hp]; exact m1, hr3, (hbr.alloc hbr.size _).grown m2 (by simp; omega) (fun g e => by have := hr g e; omega), (hX.alloc _).grown m2 (fun e => by have := hr _ e.symm; omega)⟩
          case measure => simp [intOf]; omega
        · have H2 := Lib.hid h2
          clear h2
          go_wp2_with (first
            | (go_at_call 66; refine (has1_any B _ _ _ theirs x _ hqt).mono ?_; rintro e w' ⟨rfl, rfl⟩; rw [H1.out])
            | (go_at_call 66; refine (has1_any B _ _ _ base x _ hqb).mono ?_; rintro e w' ⟨rfl, rfl⟩; rw [H2.out]))
          go_roundw
          case rel =>
            have hp : pA base theirs x = false := by simp [pA, H1.out, H2.out]
            exact ⟨k + 1, r, A, c, by omega, by go_num, by rw [HN.out, hp]; rfl, by rw [HN.out, HT.out, hp]; simpa using HO.out, hr, hbr, hX⟩
          case measure => simp [intOf]; omega
      · have H1 := Lib.hid h1
        clear h1
        go_wp2_with (first
          | (go_at_call 66; refine (has1_any B _ _ _ theirs x _ hqt).mono ?_; rintro e w' ⟨rfl, rfl⟩; rw [H1.out])
          | (at_builtin; refine appU1 rfl (.tmp 29) (.tmp 31) rfl _ r _ _ c (fltTo ours (pA base theirs) k) rfl (HO.out.alloc _) wr.heap.size x rfl (Blk.new _ _ _) hxb (by omega) ?_; intro r3 A3 c3 w3 m1 m2 m3))
        go_roundw
        case rel =>
          have hp : pA base theirs x = true := by simp [pA, H1.out]
          have hr3 : ∀ g, r3 = some g → w.heap.size < g := fun g e => by
            rcases m3 with h3 | h3
            · exact hr g (by rw [← h3, e])
            · have := h3 g e; simp at this; omega
          exact ⟨k + 1, r3, A3, c3, by omega, by go_num, by rw [HN.out, hp]; rfl, by rw [HN.out, HT.out, hp]; exact m1, hr3, (hbr.alloc hbr.size _).grown m2 (by simp; omega) (fun g e => by have := hr g e; omega), (hX.alloc _).grown m2 (fun e => by have := hr _ e.symm; omega)⟩
        case measure => simp [intOf]; omega
    · obtain rfl : k = no := by omega
      obtain ⟨wo, rfl⟩ : ∃ wo : World, wo = wr := ⟨_, rfl⟩
      rw [← allTN_zero] at hown ⊢
      rw [← allTo_zero] at hown
      have HOW := Lib.hid hown
      clear hown
      go_wp2_with fail
      go_loopw [4, 37] (fun o i wr => ∃ (m : Nat) (r : Option Nat) (A : Option Addr) (c : Nat), m ≤ nt ∧ i = .int .i64 m ∧ o = .slice A (allTN base ours theirs k m) c ∧ OwnU wr r A (allTN base ours theirs k m) c (allTo base ours theirs k m) ∧ (∀ g, r = some g → w.heap.size < g) ∧ Below w.heap.size w wr ∧ Blk wr w.heap.size 46 #[.slice Ab nb cb, .slice Ao k co, .slice At nt ct]) (fun _ i _ => nt - (intOf i).toNat)
      case atStart => exact ⟨0, r, A, c, by omega, rfl, rfl, HOW.out, hr, hbr, hX⟩
      case round =>
        clear HOW hr hbr hX hqb hqo hqt hx0 hx1 hx2 hsz hle
        obtain ⟨m, r, A, c, hm, rfl, rfl, hown, hr, hbr, hX⟩ := hrel
        have hqb := hb.below (hbr.mono hB)
        have hqo := ho.below (hbr.mono hB)
        have hqt := ht.below (hbr.mono hB)
        obtain ⟨hx0, hx1, hx2⟩ := hX.c3
        have hsz := hX.lt
        have hle1 := fltN_le ours (pA base theirs) k
        have hle2 := fltN_le theirs (pB base ours) m
        have hle : allTN base ours theirs k m ≤ 2000000 := by unfold allTN; omega
        clear hle1 hle2
        by_cases hlt2 : m < nt
        · obtain ⟨ad, x, rfl, hbl, hx, hxb, hc1⟩ := hqt.at_ hlt2
          have HN : Hid (allTN base ours theirs k (m + 1) = allTN base ours theirs k m + if pB base ours x then 1 else 0) := by
            show _ = _; unfold allTN; rw [fltN_succ hx]; omega
          have HT : Hid (allTo base ours theirs k (m + 1) = allTo base ours theirs k m ++ if pB base ours x then [x] else []) := by
            show _ = _; unfold allTo; rw [fltTo_succ hx]; simp
          have HO := Lib.hid hown
          clear hx hown
          cases h1 : hasB ours x
          · have H1 := Lib.hid h1
            clear h1
            cases h2 : hasB base x
            · have H2 := Lib.hid h2
              clear h2
              go_wp2_with (first
                | (go_at_call 66; refine (has1_any B _ _ _ ours x _ hqo).mono ?_; rintro e w' ⟨rfl, rfl⟩; rw [H1.out])
                | (go_at_call 66; refine (has1_any B _ _ _ base x _ hqb).mono ?_; rintro e w' ⟨rfl, rfl⟩; rw [H2.out])
                | (at_builtin; refine appU1 rfl (.tmp 55) (.tmp 57) rfl _ r _ _ c (allTo base ours theirs k m) rfl (HO.out.alloc _) wr.heap.size x rfl (Blk.new _ _ _) hxb (by omega) ?_; intro r3 A3 c3 w3 m1 m2 m3))
              go_roundw
              case rel =>
                have hp : pB base ours x = true := by simp [pB, H1.out, H2.out]
                have hr3 : ∀ g, r3 = some g → w.heap.size < g := fun g e => by
                  rcases m3 with h3 | h3
                  · exact hr g (by rw [← h3, e])
                  · have := h3 g e; simp at this; omega
                exact ⟨m + 1, r3, A3, c3, by omega, by go_num, by rw [HN.out, hp]; rfl, by rw [HN.out, HT.out, hp]; exact m1, hr3, (hbr.alloc hbr.size _).grown m2 (by simp; omega) (fun g e => by have := hr g e; omega), (hX.alloc _).grown m2 (fun e => by have := hr _ e.symm; omega)⟩
              case measure => simp [intOf]; omega
            · have H2 := Lib.hid h2
              clear h2
              go_wp2_with (first
                | (go_at_call 66; refine (has1_any B _ _ _ ours x _ hqo).mono ?_; rintro e w' ⟨rfl, rfl⟩; rw [H1.out])
                | (go_at_call 66; refine (has1_any B _ _ _ base x _ hqb).mono ?_; rintro e w' ⟨rfl, rfl⟩; rw [H2.out]))
              go_roundw
              case rel =>
                have hp : pB base ours x = false := by simp [pB, H1.out, H2.out]
                exact ⟨m + 1, r, A, c, by omega, by go_num, by rw [HN.out, hp]; rfl, by rw [HN.out, HT.out, hp]; simpa using HO.out, hr, hbr, hX⟩
              case measure => simp [intOf]; omega
          · have H1 := Lib.hid h1
            clear h1
            go_wp2_with (first
              | (go_at_call 66; refine (has1_any B _ _ _ ours x _ hqo).mono ?_; rintro e w' ⟨rfl, rfl⟩; rw [H1.out]))
            go_roundw
            case rel =>
              have hp : pB base ours x = false := by simp [pB, H1.out]
              exact ⟨m + 1, r, A, c, by omega, by go_num, by rw [HN.out, hp]; rfl, by rw [HN.out, HT.out, hp]; simpa using HO.out, hr, hbr, hX⟩
            case measure => simp [intOf]; omega
        · obtain rfl : m = nt := by omega
          go_wp2_with fail
          go_ret
          have e1 := allTo_all base ours theirs HLo.out HLt.out
          have e2 : allTN base ours theirs k m = allN base ours theirs := by rw [← allTo_len, e1]; rfl
          rw [e1, e2] at hown
          exact ⟨r, A, c, by show Ending.returned (Value.slice A (allTN base ours theirs k m) c) = _; rw [e2], hown, hbr⟩
end Go.Proofs.Ytklmckbpbloonaa

namespace Go.Proofs.Ytklmckbpbloonaa
open Go.RowKit

theorem belongs_any (b o t : Bool) (w : World) : Calls Try.prog 65 #[.bool b, .bool o, .bool t] w fun e w' => e = .returned (.bool (o && t || o && !b || t && !b)) ∧ w = w' := by
  cases b <;> cases o <;> cases t <;>
  · go_enter Try.func65, Try.ntmps65
    go_wp2
    go_ret
    exact ⟨rfl, rfl⟩
theorem idx_has {xs : List Int} {x : Int} (h : hasB xs x = true) : 0 ≤ idx xs x := by rw [← hasB_idx] at h; simpa using h
theorem idx_hasnt {xs : List Int} {x : Int} (h : hasB xs x = false) : idx xs x < 0 := by rw [← hasB_idx] at h; simpa using h
theorem pick_any (B : Nat) (Ab Ao At : Option Addr) (nb cb no co nt ct : Nat) (base ours theirs : List Int) (w : World) (hb : RdU w B Ab nb cb base) (ho : RdU w B Ao no co ours) (ht : RdU w B At nt ct theirs) (hno : no ≤ 1000000) (hnt : nt ≤ 1000000) (hB : B ≤ w.heap.size) :
    Calls Try.prog 31 #[.slice Ab nb cb, .slice Ao no co, .slice At nt ct] w fun e w' => ∃ r A c, e = .returned (.slice A (allN base ours theirs) c) ∧ OwnU w' r A (allN base ours theirs) c (allL base ours theirs) ∧ Below w.heap.size w w' := by
  go_enter Try.func31, Try.ntmps31
  go_wp2_with (go_at_call 32; refine (all_any B _ _ _ _ _ _ _ _ _ base ours theirs _ hb ho ht hno hnt hB).mono ?_; rintro e w' ⟨r, A, c, rfl, k1, k2⟩)
  go_ret
  exact ⟨r, A, c, rfl, k1, k2⟩
/-- Are a row's things unlike? -/
def unlikeB (xs : List Int) : Bool := decide xs.Nodup
def likeAt (xs : List Int) (k : Nat) : Prop := ∀ j x, j < k → xs[j]? = some x → idx xs x = j
theorem unlike_all {xs : List Int} {n : Nat} (hn : xs.length = n) (h : likeAt xs n) : xs.Nodup := by
  subst hn
  rw [List.nodup_iff_pairwise_ne, List.pairwise_iff_getElem]
  intro i j hi hj hij e
  have h1 := h i xs[i] hi (List.getElem?_eq_getElem hi)
  have h2 := h j xs[j] hj (List.getElem?_eq_getElem hj)
  rw [e, h2] at h1
  omega
theorem unlike_not {xs : List Int} {k : Nat} {x : Int} (h : xs[k]? = some x) (hne : idx xs x ≠ k) : ¬ xs.Nodup := by
  intro hn
  refine hne (idx_hit (fun j hj e => ?_) h)
  obtain ⟨a, e1⟩ := List.getElem?_eq_some_iff.1 e
  obtain ⟨b, e2⟩ := List.getElem?_eq_some_iff.1 h
  have := (List.getElem_inj hn).1 (e1.trans e2.symm)
  omega
set_option maxHeartbeats 1000000 in
theorem unlike_any (B : Nat) (A : Option Addr) (n c : Nat) (xs : List Int) (w : World) (h : RdU w B A n c xs) :
    Calls Try.prog 28 #[.slice A n c] w fun e w' => e = .returned (.bool (unlikeB xs)) ∧ w = w' := by
  have HL := Lib.hid h.len
  obtain ⟨hn, hc⟩ := h.bd
  go_enter Try.func28, Try.ntmps28
  go_wp2
  go_loopw [7] (fun i wr => ∃ k : Nat, k ≤ n ∧ i = .int .i64 k ∧ wr = w ∧ Hid (likeAt xs k)) (fun i _ => n - (intOf i).toNat)
  case atStart => exact ⟨0, by omega, rfl, rfl, fun j x hj => absurd hj (by omega)⟩
  case round =>
    obtain ⟨k, hk, rfl, rfl, HJ⟩ := hrel
    by_cases hlt : k < n
    · obtain ⟨ad, x, rfl, hbl, hx, _, hc1⟩ := h.at_ hlt
      have HX := Lib.hid hx
      clear hx
      by_cases he : idx xs x = k
      · have he1 : (idx xs x != (k : Int)) = false := by simp [he]
        have HE := Lib.hid he
        clear he
        go_wp2_with (go_at_call 30; refine (rfind_any B _ _ _ xs x _ h).mono ?_; rintro e w' ⟨rfl, rfl⟩)
        go_roundw
        case rel =>
          refine ⟨k + 1, by omega, by go_num, trivial, fun j y hj hy => ?_⟩
          by_cases hjk : j = k
          · subst hjk
            have := HX.out
            rw [this] at hy; injection hy with hy; subst hy; exact HE.out
          · exact HJ.out j y (by omega) hy
        case measure => simp [intOf]; omega
      · have he1 : (idx xs x != (k : Int)) = true := by simp [he]
        have HE := Lib.hid he
        clear he
        go_wp2_with (go_at_call 30; refine (rfind_any B _ _ _ xs x _ h).mono ?_; rintro e w' ⟨rfl, rfl⟩)
        go_ret
        exact ⟨ret_bool (by have := unlike_not HX.out HE.out; simp [unlikeB, this]), rfl⟩
    · obtain rfl : k = n := by omega
      go_wp2
      go_ret
      exact ⟨ret_bool (by have := unlike_all HL.out HJ.out; simp [unlikeB, this]), rfl⟩
end Go.Proofs.Ytklmckbpbloonaa

namespace Go.Proofs.Ytklmckbpbloonaa
open Go.RowKit

set_option maxRecDepth 100000 in
set_option maxHeartbeats 4000000 in
theorem nums_any (B : Nat) (Ab Ao At : Option Addr) (nb cb no co nt ct : Nat) (base ours theirs : List Int) (w : World) (hb : RdU w B Ab nb cb base) (ho : RdU w B Ao no co ours) (ht : RdU w B At nt ct theirs) (hno : no ≤ 1000000) (hnt : nt ≤ 1000000) (hB : B ≤ w.heap.size) :
    Calls Try.prog 29 #[.slice Ab nb cb, .slice Ao no co, .slice At nt ct] w fun e w' => ∃ r A c, e = .returned (.slice A (allN base ours theirs) c) ∧ OwnU w' r A (allN base ours theirs) c (allL base ours theirs) ∧ Below w.heap.size w w' := by
  obtain ⟨hno', hco⟩ := ho.bd
  obtain ⟨hnt', hct⟩ := ht.bd
  have HLo := Lib.hid ho.len
  have HLt := Lib.hid ht.len
  go_enter Try.func29, Try.ntmps29
  go_wp2_with fail
  go_loopw [7, 14] (fun o i wr => ∃ (k : Nat) (r : Option Nat) (A : Option Addr) (c : Nat), k ≤ no ∧ i = .int .i64 k ∧ o = .slice A (fltN ours (pA base theirs) k) c ∧ OwnU wr r A (fltN ours (pA base theirs) k) c (fltTo ours (pA base theirs) k) ∧ (∀ g, r = some g → w.heap.size ≤ g) ∧ Below w.heap.size w wr) (fun _ i _ => no - (intOf i).toNat)
  case atStart => exact ⟨0, none, none, 0, by omega, rfl, by simp [fltN, fltTo], by simpa [fltN, fltTo] using OwnU.nil_ _ _, by simp, Below.refl _ _⟩
  case round =>
    obtain ⟨k, r, A, c, hk, rfl, rfl, hown, hr, hbr⟩ := hrel
    have hqb := hb.below (hbr.mono hB)
    have hqo := ho.below (hbr.mono hB)
    have hqt := ht.below (hbr.mono hB)
    have hle := fltN_le ours (pA base theirs) k
    by_cases hlt : k < no
    · obtain ⟨ad, x, rfl, hbl, hx, hxb, hc1⟩ := hqo.at_ hlt
      have HN : Hid (fltN ours (pA base theirs) (k + 1) = fltN ours (pA base theirs) k + if pA base theirs x then 1 else 0) := fltN_succ hx
      have HT : Hid (fltTo ours (pA base theirs) (k + 1) = fltTo ours (pA base theirs) k ++ if pA base theirs x then [x] else []) := fltTo_succ hx
      have HO := Lib.hid hown
      clear hx hown
      cases h1 : hasB theirs x
      · have H1 := Lib.hid h1
        clear h1
        have g1 := idx_hasnt H1.out; have g1' : decide (0 ≤ idx theirs x) = false := by simp; omega
        cases h2 : hasB base x
        · have H2 := Lib.hid h2
          clear h2
          have g2 := idx_hasnt H2.out; have g2' : decide (0 ≤ idx base x) = false := by simp; omega
          go_wp2_with (first
            | (go_at_call 30; refine (rfind_any B _ _ _ _ x _ (by first | exact hqb | exact hqt | exact hqo)).mono ?_; rintro e w' ⟨rfl, rfl⟩)
            | (go_at_call 65; refine (belongs_any _ _ _ _).mono ?_; rintro e w' ⟨rfl, rfl⟩)
            | (at_builtin; refine appU1 rfl (.tmp 27) (.tmp 29) rfl _ r _ _ c (fltTo ours (pA base theirs) k) rfl (HO.out.alloc _) wr.heap.size x rfl (Blk.new _ _ _) hxb (by omega) ?_; intro r3 A3 c3 w3 m1 m2 m3))
          go_roundw
          case rel =>
            have hp : pA base theirs x = true := by simp [pA, H1.out, H2.out]
            have hr3 : ∀ g, r3 = some g → w.heap.size ≤ g := fun g e => by
              rcases m3 with h3 | h3
              · exact hr g (by rw [← h3, e])
              · have a1 := h3 g e; have a2 := hbr.size; simp only [World.size_alloc] at a1; omega
            exact ⟨k + 1, r3, A3, c3, by omega, by go_num, by rw [HN.out, hp]; rfl, by rw [HN.out, HT.out, hp]; exact m1, hr3, (hbr.alloc hbr.size _).grown m2 (by have := hbr.size; simp; omega) (fun g e => hr g e)⟩
          case measure => simp [intOf]; omega
        · have H2 := Lib.hid h2
          clear h2
          have g2 := idx_has H2.out
          go_wp2_with (first
            | (go_at_call 30; refine (rfind_any B _ _ _ _ x _ (by first | exact hqb | exact hqt | exact hqo)).mono ?_; rintro e w' ⟨rfl, rfl⟩)
            | (go_at_call 65; refine (belongs_any _ _ _ _).mono ?_; rintro e w' ⟨rfl, rfl⟩))
          go_roundw
          case rel =>
            have hp : pA base theirs x = false := by simp [pA, H1.out, H2.out]
            exact ⟨k + 1, r, A, c, by omega, by go_num, by rw [HN.out, hp]; rfl, by rw [HN.out, HT.out, hp]; simpa using HO.out, hr, hbr⟩
          case measure => simp [intOf]; omega
      · have H1 := Lib.hid h1
        clear h1
        have g1 := idx_has H1.out
        cases h2 : hasB base x
        · have H2 := Lib.hid h2
          clear h2
          have g2 := idx_hasnt H2.out; have g2' : decide (0 ≤ idx base x) = false := by simp; omega
          go_wp2_with (first
            | (go_at_call 30; refine (rfind_any B _ _ _ _ x _ (by first | exact hqb | exact hqt | exact hqo)).mono ?_; rintro e w' ⟨rfl, rfl⟩)
            | (go_at_call 65; refine (belongs_any _ _ _ _).mono ?_; rintro e w' ⟨rfl, rfl⟩)
            | (at_builtin; refine appU1 rfl (.tmp 27) (.tmp 29) rfl _ r _ _ c (fltTo ours (pA base theirs) k) rfl (HO.out.alloc _) wr.heap.size x rfl (Blk.new _ _ _) hxb (by omega) ?_; intro r3 A3 c3 w3 m1 m2 m3))
          go_roundw
          case rel =>
            have hp : pA base theirs x = true := by simp [pA, H1.out, H2.out]
            have hr3 : ∀ g, r3 = some g → w.heap.size ≤ g := fun g e => by
              rcases m3 with h3 | h3
              · exact hr g (by rw [← h3, e])
              · have a1 := h3 g e; have a2 := hbr.size; simp only [World.size_alloc] at a1; omega
            exact ⟨k + 1, r3, A3, c3, by omega, by go_num, by rw [HN.out, hp]; rfl, by rw [HN.out, HT.out, hp]; exact m1, hr3, (hbr.alloc hbr.size _).grown m2 (by have := hbr.size; simp; omega) (fun g e => hr g e)⟩
          case measure => simp [intOf]; omega
        · have H2 := Lib.hid h2
          clear h2
          have g2 := idx_has H2.out
          go_wp2_with (first
            | (go_at_call 30; refine (rfind_any B _ _ _ _ x _ (by first | exact hqb | exact hqt | exact hqo)).mono ?_; rintro e w' ⟨rfl, rfl⟩)
            | (go_at_call 65; refine (belongs_any _ _ _ _).mono ?_; rintro e w' ⟨rfl, rfl⟩)
            | (at_builtin; refine appU1 rfl (.tmp 27) (.tmp 29) rfl _ r _ _ c (fltTo ours (pA base theirs) k) rfl (HO.out.alloc _) wr.heap.size x rfl (Blk.new _ _ _) hxb (by omega) ?_; intro r3 A3 c3 w3 m1 m2 m3))
          go_roundw
          case rel =>
            have hp : pA base theirs x = true := by simp [pA, H1.out, H2.out]
            have hr3 : ∀ g, r3 = some g → w.heap.size ≤ g := fun g e => by
              rcases m3 with h3 | h3
              · exact hr g (by rw [← h3, e])
              · have a1 := h3 g e; have a2 := hbr.size; simp only [World.size_alloc] at a1; omega
            exact ⟨k + 1, r3, A3, c3, by omega, by go_num, by rw [HN.out, hp]; rfl, by rw [HN.out, HT.out, hp]; exact m1, hr3, (hbr.alloc hbr.size _).grown m2 (by have := hbr.size; simp; omega) (fun g e => hr g e)⟩
          case measure => simp [intOf]; omega
    · obtain rfl : k = no := by omega
      obtain ⟨wo, rfl⟩ : ∃ wo : World, wo = wr := ⟨_, rfl⟩
      rw [← allTN_zero] at hown ⊢
      rw [← allTo_zero] at hown
      have HOW := Lib.hid hown
      clear hown
      go_wp2_with fail
      go_loopw [7, 34] (fun o i wr => ∃ (m : Nat) (r : Option Nat) (A : Option Addr) (c : Nat), m ≤ nt ∧ i = .int .i64 m ∧ o = .slice A (allTN base ours theirs k m) c ∧ OwnU wr r A (allTN base ours theirs k m) c (allTo base ours theirs k m) ∧ (∀ g, r = some g → w.heap.size ≤ g) ∧ Below w.heap.size w wr) (fun _ i _ => nt - (intOf i).toNat)
      case atStart => exact ⟨0, r, A, c, by omega, rfl, rfl, HOW.out, hr, hbr⟩
      case round =>
        clear HOW hr hbr hqb hqo hqt hle
        obtain ⟨m, r, A, c, hm, rfl, rfl, hown, hr, hbr⟩ := hrel
        have hqb := hb.below (hbr.mono hB)
        have hqo := ho.below (hbr.mono hB)
        have hqt := ht.below (hbr.mono hB)
        have hle1 := fltN_le ours (pA base theirs) k
        have hle2 := fltN_le theirs (pB base ours) m
        have hle : allTN base ours theirs k m ≤ 2000000 := by unfold allTN; omega
        clear hle1 hle2
        by_cases hlt2 : m < nt
        · obtain ⟨ad, x, rfl, hbl, hx, hxb, hc1⟩ := hqt.at_ hlt2
          have HN : Hid (allTN base ours theirs k (m + 1) = allTN base ours theirs k m + if pB base ours x then 1 else 0) := by
            show _ = _; unfold allTN; rw [fltN_succ hx]; omega
          have HT : Hid (allTo base ours theirs k (m + 1) = allTo base ours theirs k m ++ if pB base ours x then [x] else []) := by
            show _ = _; unfold allTo; rw [fltTo_succ hx]; simp
          have HO := Lib.hid hown
          clear hx hown
          cases h1 : hasB ours x
          · have H1 := Lib.hid h1
            clear h1
            have g1 := idx_hasnt H1.out; have g1' : decide (0 ≤ idx ours x) = false := by simp; omega
            cases h2 : hasB base x
            · have H2 := Lib.hid h2
              clear h2
              have g2 := idx_hasnt H2.out; have g2' : decide (0 ≤ idx base x) = false := by simp; omega
              go_wp2_with (first
                | (go_at_call 30; refine (rfind_any B _ _ _ _ x _ (by first | exact hqb | exact hqt | exact hqo)).mono ?_; rintro e w' ⟨rfl, rfl⟩)
                | (go_at_call 65; refine (belongs_any _ _ _ _).mono ?_; rintro e w' ⟨rfl, rfl⟩)
                | (at_builtin; refine appU1 rfl (.tmp 49) (.tmp 51) rfl _ r _ _ c (allTo base ours theirs k m) rfl (HO.out.alloc _) wr.heap.size x rfl (Blk.new _ _ _) hxb (by omega) ?_; intro r3 A3 c3 w3 m1 m2 m3))
              go_roundw
              case rel =>
                have hp : pB base ours x = true := by simp [pB, H1.out, H2.out]
                have hr3 : ∀ g, r3 = some g → w.heap.size ≤ g := fun g e => by
                  rcases m3 with h3 | h3
                  · exact hr g (by rw [← h3, e])
                  · have a1 := h3 g e; have a2 := hbr.size; simp only [World.size_alloc] at a1; omega
                exact ⟨m + 1, r3, A3, c3, by omega, by go_num, by rw [HN.out, hp]; rfl, by rw [HN.out, HT.out, hp]; exact m1, hr3, (hbr.alloc hbr.size _).grown m2 (by have := hbr.size; simp; omega) (fun g e => hr g e)⟩
              case measure => simp [intOf]; omega
            · have H2 := Lib.hid h2
              clear h2
              have g2 := idx_has H2.out
              go_wp2_with (first
                | (go_at_call 30; refine (rfind_any B _ _ _ _ x _ (by first | exact hqb | exact hqt | exact hqo)).mono ?_; rintro e w' ⟨rfl, rfl⟩)
                | (go_at_call 65; refine (belongs_any _ _ _ _).mono ?_; rintro e w' ⟨rfl, rfl⟩))
              go_roundw
              case rel =>
                have hp : pB base ours x = false := by simp [pB, H1.out, H2.out]
                exact ⟨m + 1, r, A, c, by omega, by go_num, by rw [HN.out, hp]; rfl, by rw [HN.out, HT.out, hp]; simpa using HO.out, hr, hbr⟩
              case measure => simp [intOf]; omega
          · have H1 := Lib.hid h1
            clear h1
            have g1 := idx_has H1.out
            go_wp2_with (first
              | (go_at_call 30; refine (rfind_any B _ _ _ _ x _ (by first | exact hqb | exact hqt | exact hqo)).mono ?_; rintro e w' ⟨rfl, rfl⟩))
            go_roundw
            case rel =>
              have hp : pB base ours x = false := by simp [pB, H1.out]
              exact ⟨m + 1, r, A, c, by omega, by go_num, by rw [HN.out, hp]; rfl, by rw [HN.out, HT.out, hp]; simpa using HO.out, hr, hbr⟩
            case measure => simp [intOf]; omega
        · obtain rfl : m = nt := by omega
          go_wp2_with fail
          go_ret
          have e1 := allTo_all base ours theirs HLo.out HLt.out
          have e2 : allTN base ours theirs k m = allN base ours theirs := by rw [← allTo_len, e1]; rfl
          rw [e1, e2] at hown
          exact ⟨r, A, c, by show Ending.returned (Value.slice A (allTN base ours theirs k m) c) = _; rw [e2], hown, hbr⟩
end Go.Proofs.Ytklmckbpbloonaa

namespace Go.Proofs.Ytklmckbpbloonaa
open Go.RowKit

/-- The darts of one edge at v. -/
def endsE (v : Int) (e : Edg) : List Int := (if e.2.1 = v then [dOf e.1 0] else []) ++ (if e.2.2 = v then [dOf e.1 1] else [])
def endsL (es : List Edg) (v : Int) : List Int := es.flatMap (endsE v)
def endsTo (es : List Edg) (v : Int) (k : Nat) : List Int := endsL (es.take k) v
theorem endsTo_succ {es : List Edg} {v : Int} {k : Nat} {e : Edg} (h : es[k]? = some e) : endsTo es v (k + 1) = endsTo es v k ++ endsE v e := by
  unfold endsTo endsL; rw [take_at h, List.flatMap_append]; simp
theorem endsTo_all (es : List Edg) (v : Int) : endsTo es v es.length = endsL es v := by unfold endsTo; rw [List.take_length]
theorem endsTo_len (es : List Edg) (v : Int) (k : Nat) : (endsTo es v k).length ≤ 2 * k := by
  unfold endsTo endsL
  induction k generalizing es with
  | zero => simp
  | succ k ih =>
    cases es with
    | nil => simp
    | cons e es =>
      have := ih es
      simp only [List.take_succ_cons, List.flatMap_cons, List.length_append]
      have h2 : (endsE v e).length ≤ 2 := by unfold endsE; split <;> split <;> simp
      omega
theorem dOf_u32 (id e : Int) (he : e = 0 ∨ e = 1) : 0 ≤ dOf id e ∧ dOf id e < 4294967296 := by unfold dOf; omega

set_option maxRecDepth 100000 in
set_option maxHeartbeats 1000000 in
theorem ends_any (B : Nat) (A : Option Addr) (n c : Nat) (es : List Edg) (v0 : Value) (v : Int) (w : World) (h : RdE w B A n c es) (hn : n ≤ 1000000) (hB : B ≤ w.heap.size) :
    Calls Try.prog 23 #[.agg #[v0, .slice A n c], .int .u32 v] w fun e w' => ∃ r A' c', e = .returned (.slice A' (endsTo es v n).length c') ∧ OwnU w' r A' (endsTo es v n).length c' (endsTo es v n) ∧ Below w.heap.size w w' ∧ (∀ g, r = some g → w.heap.size ≤ g) := by
  obtain ⟨hnc, hc⟩ := h.bd
  have HB := Lib.hid ((Below.refl w.heap.size w).alloc (Nat.le_refl _) (.cells #[v0, .slice A n c] 25))
  go_enter Try.func23, Try.ntmps23
  go_wp2
  go_loopw [5, 11] (fun o i wr => ∃ (k : Nat) (r : Option Nat) (A' : Option Addr) (c' : Nat), k ≤ n ∧ i = .int .i64 k ∧ o = .slice A' (endsTo es v k).length c' ∧ OwnU wr r A' (endsTo es v k).length c' (endsTo es v k) ∧ Below w.heap.size w wr ∧ (∀ g, r = some g → w.heap.size ≤ g))
    (fun _ i _ => n - (intOf i).toNat)
  case atStart => exact ⟨0, none, none, 0, by omega, rfl, by simp [endsTo, endsL], by simpa [endsTo, endsL] using OwnU.nil_ _ _, HB.out, by simp⟩
  case round =>
    obtain ⟨k, r, A', c', hk, rfl, rfl, hown, hbr, hrg⟩ := hrel
    have hq := h.below (hbr.mono hB)
    by_cases hlt : k < n
    · obtain ⟨ad, x, rfl, hbl, hx, hxb, hc1, hc2, hc3⟩ := hq.at_ hlt
      have HX := Lib.hid hx
      have HO := Lib.hid hown
      have hlen := endsTo_len es v k
      have HS : Hid (endsTo es v (k + 1) = endsTo es v k ++ endsE v x) := endsTo_succ hx
      clear hx hown
      have HBX := Lib.hid (hbr.alloc hbr.size (.cells #[.int .u32 x.1, .int .u32 x.2.1, .int .u32 x.2.2] 39))
      have hle : (endsTo es v k).length ≤ 4000000 := by omega
      have hX := Blk.new wr 39 #[.int .u32 x.1, .int .u32 x.2.1, .int .u32 x.2.2]
      have d0 := dOf_u32 x.1 0 (.inl rfl)
      have d1 := dOf_u32 x.1 1 (.inr rfl)
      generalize hL : endsTo es v k = L at *
      clear hL
      by_cases ha : x.2.1 = v
      · have ha' : (x.2.1 == v) = true := by simp [ha]
        have HA := Lib.hid ha
        clear ha
        have hO1 := HO.out.alloc (.cells #[.int .u32 x.1, .int .u32 x.2.1, .int .u32 x.2.2] 39) |>.alloc (.cells #[.int .u32 (dOf x.1 0)] 31)
        have hB1 := HBX.out.alloc (by have := hbr.size; simp; omega) (.cells #[.int .u32 (dOf x.1 0)] 31)
        have hb1 := Blk.new (wr.alloc (.cells #[.int .u32 x.1, .int .u32 x.2.1, .int .u32 x.2.2] 39)) 31 #[.int .u32 (dOf x.1 0)]
        simp only [World.size_alloc] at hb1
        have hX1 := hX.alloc (.cells #[.int .u32 (dOf x.1 0)] 31)
        have hOl := HO.out.lt
        have H1 := Lib.hid hO1
        have H2 := Lib.hid hB1
        have H3 := Lib.hid hb1
        have H4 := Lib.hid hX1
        have H5 := Lib.hid hOl
        clear hO1 hB1 hb1 hX1 hOl
        by_cases hb : x.2.2 = v
        · have hb' : (x.2.2 == v) = true := by simp [hb]
          have HBB := Lib.hid hb
          clear hb
          go_wp2_with (first | (go_at_call_of 62 (Value.int .i64 0); refine (dartOf0 _ _).mono ?_; rintro e w' ⟨rfl, rfl⟩) | (go_at_call_of 62 (Value.int .i64 1); refine (dartOf1 _ _).mono ?_; rintro e w' ⟨rfl, rfl⟩) | (at_builtin; refine appU1 rfl (.tmp 19) (.tmp 23) rfl _ _ _ _ _ _ rfl H1.out _ _ rfl H3.out d0 (by omega) ?_; intro r1 A1 c1 w1 k1 k2 k3; have hX2 := H4.out.grown k2 (by intro e; have := H5.out _ e.symm; omega); obtain ⟨p1, p2, p3⟩ := hX2.c3; have p4 := hX2.lt) | (at_builtin; refine appU1 rfl (.tmp 29) (.tmp 33) rfl _ _ _ _ _ _ rfl (k1.alloc _) _ _ rfl (Blk.new _ _ _) d1 (by omega) ?_; intro r2 A2 c2 w2 m1 m2 m3))
          go_roundw
          case rel =>
            have e1 : endsTo es v (k + 1) = L ++ [dOf x.1 0] ++ [dOf x.1 1] := by rw [HS.out]; unfold endsE; rw [if_pos HA.out, if_pos HBB.out]; simp
            have e2 : (L ++ [dOf x.1 0] ++ [dOf x.1 1]).length = L.length + 1 + 1 := by simp
            have hB3 := H2.out.grown k2 (by have := hbr.size; simp; omega) hrg
            have hr1 := new_row k3 hrg (by have := hbr.size; simp; omega)
            refine ⟨k + 1, r2, A2, c2, by omega, by go_num, by rw [e1, e2], by rw [e1, e2]; exact m1, (hB3.alloc hB3.size _).grown m2 (by have := hB3.size; simp; omega) hr1, new_row m3 hr1 (by have := hB3.size; simp; omega)⟩
          case measure => simp [intOf]; omega
        · have hb' : (x.2.2 == v) = false := by simp [hb]
          have HBB := Lib.hid hb
          clear hb
          go_wp2_with (first | (go_at_call_of 62 (Value.int .i64 0); refine (dartOf0 _ _).mono ?_; rintro e w' ⟨rfl, rfl⟩) | (at_builtin; refine appU1 rfl (.tmp 19) (.tmp 23) rfl _ _ _ _ _ _ rfl H1.out _ _ rfl H3.out d0 (by omega) ?_; intro r1 A1 c1 w1 k1 k2 k3; have hX2 := H4.out.grown k2 (by intro e; have := H5.out _ e.symm; omega); obtain ⟨p1, p2, p3⟩ := hX2.c3; have p4 := hX2.lt))
          go_roundw
          case rel =>
            have e1 : endsTo es v (k + 1) = L ++ [dOf x.1 0] := by rw [HS.out]; unfold endsE; rw [if_pos HA.out, if_neg HBB.out]; simp
            have e2 : (L ++ [dOf x.1 0]).length = L.length + 1 := by simp
            refine ⟨k + 1, r1, A1, c1, by omega, by go_num, by rw [e1, e2], by rw [e1, e2]; exact k1, H2.out.grown k2 (by have := hbr.size; simp; omega) hrg, new_row k3 hrg (by have := hbr.size; simp; omega)⟩
          case measure => simp [intOf]; omega
      · have ha' : (x.2.1 == v) = false := by simp [ha]
        have HA := Lib.hid ha
        clear ha
        by_cases hb : x.2.2 = v
        · have hb' : (x.2.2 == v) = true := by simp [hb]
          have HBB := Lib.hid hb
          clear hb
          have hO1 := HO.out.alloc (.cells #[.int .u32 x.1, .int .u32 x.2.1, .int .u32 x.2.2] 39) |>.alloc (.cells #[.int .u32 (dOf x.1 1)] 31)
          have hB1 := HBX.out.alloc (by have := hbr.size; simp; omega) (.cells #[.int .u32 (dOf x.1 1)] 31)
          have hb1 := Blk.new (wr.alloc (.cells #[.int .u32 x.1, .int .u32 x.2.1, .int .u32 x.2.2] 39)) 31 #[.int .u32 (dOf x.1 1)]
          simp only [World.size_alloc] at hb1
          have H1 := Lib.hid hO1
          have H2 := Lib.hid hB1
          have H3 := Lib.hid hb1
          clear hO1 hB1 hb1
          go_wp2_with (first | (go_at_call 62; refine (dartOf1 _ _).mono ?_; rintro e w' ⟨rfl, rfl⟩) | (at_builtin; refine appU1 rfl (.tmp 29) (.tmp 33) rfl _ _ _ _ _ _ rfl H1.out _ _ rfl H3.out d1 (by omega) ?_; intro r1 A1 c1 w1 k1 k2 k3))
          go_roundw
          case rel =>
            have e1 : endsTo es v (k + 1) = L ++ [dOf x.1 1] := by rw [HS.out]; unfold endsE; rw [if_neg HA.out, if_pos HBB.out]; simp
            have e2 : (L ++ [dOf x.1 1]).length = L.length + 1 := by simp
            refine ⟨k + 1, r1, A1, c1, by omega, by go_num, by rw [e1, e2], by rw [e1, e2]; exact k1, H2.out.grown k2 (by have := hbr.size; simp; omega) hrg, new_row k3 hrg (by have := hbr.size; simp; omega)⟩
          case measure => simp [intOf]; omega
        · have hb' : (x.2.2 == v) = false := by simp [hb]
          have HBB := Lib.hid hb
          clear hb
          go_wp2
          go_roundw
          case rel =>
            have e1 : endsTo es v (k + 1) = L := by rw [HS.out]; unfold endsE; rw [if_neg HA.out, if_neg HBB.out]; simp
            refine ⟨k + 1, r, A', c', by omega, by go_num, by rw [e1], by rw [e1]; exact HO.out.alloc _, HBX.out, hrg⟩
          case measure => simp [intOf]; omega
    · obtain rfl : k = n := by omega
      go_wp2
      go_ret
      exact ⟨r, A', c', rfl, hown, hbr, hrg⟩
set_option maxRecDepth 100000 in
set_option maxHeartbeats 1000000 in
theorem rends_any (B : Nat) (A : Option Addr) (n c : Nat) (es : List Edg) (v0 : Value) (v : Int) (w : World) (h : RdE w B A n c es) (hn : n ≤ 1000000) (hB : B ≤ w.heap.size) :
    Calls Try.prog 16 #[.agg #[v0, .slice A n c], .int .u32 v] w fun e w' => ∃ r A' c', e = .returned (.slice A' (endsTo es v n).length c') ∧ OwnU w' r A' (endsTo es v n).length c' (endsTo es v n) ∧ Below w.heap.size w w' ∧ (∀ g, r = some g → w.heap.size ≤ g) := by
  obtain ⟨hnc, hc⟩ := h.bd
  have HB := Lib.hid ((Below.refl w.heap.size w).alloc (Nat.le_refl _) (.cells #[v0, .slice A n c] 25))
  go_enter Try.func16, Try.ntmps16
  go_wp2
  go_loopw [5, 11] (fun o i wr => ∃ (k : Nat) (r : Option Nat) (A' : Option Addr) (c' : Nat), k ≤ n ∧ i = .int .i64 k ∧ o = .slice A' (endsTo es v k).length c' ∧ OwnU wr r A' (endsTo es v k).length c' (endsTo es v k) ∧ Below w.heap.size w wr ∧ (∀ g, r = some g → w.heap.size ≤ g))
    (fun _ i _ => n - (intOf i).toNat)
  case atStart => exact ⟨0, none, none, 0, by omega, rfl, by simp [endsTo, endsL], by simpa [endsTo, endsL] using OwnU.nil_ _ _, HB.out, by simp⟩
  case round =>
    obtain ⟨k, r, A', c', hk, rfl, rfl, hown, hbr, hrg⟩ := hrel
    have hq := h.below (hbr.mono hB)
    by_cases hlt : k < n
    · obtain ⟨ad, x, rfl, hbl, hx, hxb, hc1, hc2, hc3⟩ := hq.at_ hlt
      have HX := Lib.hid hx
      have HO := Lib.hid hown
      have hlen := endsTo_len es v k
      have HS : Hid (endsTo es v (k + 1) = endsTo es v k ++ endsE v x) := endsTo_succ hx
      clear hx hown
      have HBX := Lib.hid (hbr.alloc hbr.size (.cells #[.int .u32 x.1, .int .u32 x.2.1, .int .u32 x.2.2] 39))
      have hle : (endsTo es v k).length ≤ 4000000 := by omega
      have hX := Blk.new wr 39 #[.int .u32 x.1, .int .u32 x.2.1, .int .u32 x.2.2]
      have d0 := dOf_u32 x.1 0 (.inl rfl)
      have s0 : 2 * x.1 % 4294967296 = dOf x.1 0 := by unfold dOf; omega
      have s1 : (2 * x.1 % 4294967296 + 1) % 4294967296 = dOf x.1 1 := by unfold dOf; omega
      have s2 : IntKind.u32.wrap (2 * x.1) = dOf x.1 0 := by rw [IntKind.wrap_u32]; exact s0
      have s3 : IntKind.u32.wrap (dOf x.1 0 + 1) = dOf x.1 1 := by rw [IntKind.wrap_u32, ← s0]; exact s1
      have s4 : (dOf x.1 0 + 1) % 4294967296 = dOf x.1 1 := by rw [← s0]; exact s1
      have d1 := dOf_u32 x.1 1 (.inr rfl)
      generalize hL : endsTo es v k = L at *
      clear hL
      by_cases ha : x.2.1 = v
      · have ha' : (x.2.1 == v) = true := by simp [ha]
        have HA := Lib.hid ha
        clear ha
        have hO1 := HO.out.alloc (.cells #[.int .u32 x.1, .int .u32 x.2.1, .int .u32 x.2.2] 39) |>.alloc (.cells #[.int .u32 (dOf x.1 0)] 31)
        have hB1 := HBX.out.alloc (by have := hbr.size; simp; omega) (.cells #[.int .u32 (dOf x.1 0)] 31)
        have hb1 := Blk.new (wr.alloc (.cells #[.int .u32 x.1, .int .u32 x.2.1, .int .u32 x.2.2] 39)) 31 #[.int .u32 (dOf x.1 0)]
        simp only [World.size_alloc] at hb1
        have hX1 := hX.alloc (.cells #[.int .u32 (dOf x.1 0)] 31)
        have hOl := HO.out.lt
        have H1 := Lib.hid hO1
        have H2 := Lib.hid hB1
        have H3 := Lib.hid hb1
        have H4 := Lib.hid hX1
        have H5 := Lib.hid hOl
        clear hO1 hB1 hb1 hX1 hOl
        by_cases hb : x.2.2 = v
        · have hb' : (x.2.2 == v) = true := by simp [hb]
          have HBB := Lib.hid hb
          clear hb
          go_wp2_with (first | (at_builtin; refine appU1 rfl (.tmp 19) (.tmp 23) rfl _ _ _ _ _ _ rfl H1.out _ _ rfl H3.out d0 (by omega) ?_; intro r1 A1 c1 w1 k1 k2 k3; have hX2 := H4.out.grown k2 (by intro e; have := H5.out _ e.symm; omega); obtain ⟨p1, p2, p3⟩ := hX2.c3; have p4 := hX2.lt) | (at_builtin; refine appU1 rfl (.tmp 29) (.tmp 34) rfl _ _ _ _ _ _ rfl (k1.alloc _) _ _ rfl (Blk.new _ _ _) d1 (by omega) ?_; intro r2 A2 c2 w2 m1 m2 m3))
          go_roundw
          case rel =>
            have e1 : endsTo es v (k + 1) = L ++ [dOf x.1 0] ++ [dOf x.1 1] := by rw [HS.out]; unfold endsE; rw [if_pos HA.out, if_pos HBB.out]; simp
            have e2 : (L ++ [dOf x.1 0] ++ [dOf x.1 1]).length = L.length + 1 + 1 := by simp
            have hB3 := H2.out.grown k2 (by have := hbr.size; simp; omega) hrg
            have hr1 := new_row k3 hrg (by have := hbr.size; simp; omega)
            refine ⟨k + 1, r2, A2, c2, by omega, by go_num, by rw [e1, e2], by rw [e1, e2]; exact m1, (hB3.alloc hB3.size _).grown m2 (by have := hB3.size; simp; omega) hr1, new_row m3 hr1 (by have := hB3.size; simp; omega)⟩
          case measure => simp [intOf]; omega
        · have hb' : (x.2.2 == v) = false := by simp [hb]
          have HBB := Lib.hid hb
          clear hb
          go_wp2_with (first | (at_builtin; refine appU1 rfl (.tmp 19) (.tmp 23) rfl _ _ _ _ _ _ rfl H1.out _ _ rfl H3.out d0 (by omega) ?_; intro r1 A1 c1 w1 k1 k2 k3; have hX2 := H4.out.grown k2 (by intro e; have := H5.out _ e.symm; omega); obtain ⟨p1, p2, p3⟩ := hX2.c3; have p4 := hX2.lt))
          go_roundw
          case rel =>
            have e1 : endsTo es v (k + 1) = L ++ [dOf x.1 0] := by rw [HS.out]; unfold endsE; rw [if_pos HA.out, if_neg HBB.out]; simp
            have e2 : (L ++ [dOf x.1 0]).length = L.length + 1 := by simp
            refine ⟨k + 1, r1, A1, c1, by omega, by go_num, by rw [e1, e2], by rw [e1, e2]; exact k1, H2.out.grown k2 (by have := hbr.size; simp; omega) hrg, new_row k3 hrg (by have := hbr.size; simp; omega)⟩
          case measure => simp [intOf]; omega
      · have ha' : (x.2.1 == v) = false := by simp [ha]
        have HA := Lib.hid ha
        clear ha
        by_cases hb : x.2.2 = v
        · have hb' : (x.2.2 == v) = true := by simp [hb]
          have HBB := Lib.hid hb
          clear hb
          have hO1 := HO.out.alloc (.cells #[.int .u32 x.1, .int .u32 x.2.1, .int .u32 x.2.2] 39) |>.alloc (.cells #[.int .u32 (dOf x.1 1)] 31)
          have hB1 := HBX.out.alloc (by have := hbr.size; simp; omega) (.cells #[.int .u32 (dOf x.1 1)] 31)
          have hb1 := Blk.new (wr.alloc (.cells #[.int .u32 x.1, .int .u32 x.2.1, .int .u32 x.2.2] 39)) 31 #[.int .u32 (dOf x.1 1)]
          simp only [World.size_alloc] at hb1
          have H1 := Lib.hid hO1
          have H2 := Lib.hid hB1
          have H3 := Lib.hid hb1
          clear hO1 hB1 hb1
          go_wp2_with (first | (at_builtin; refine appU1 rfl (.tmp 29) (.tmp 34) rfl _ _ _ _ _ _ rfl H1.out _ _ rfl H3.out d1 (by omega) ?_; intro r1 A1 c1 w1 k1 k2 k3))
          go_roundw
          case rel =>
            have e1 : endsTo es v (k + 1) = L ++ [dOf x.1 1] := by rw [HS.out]; unfold endsE; rw [if_neg HA.out, if_pos HBB.out]; simp
            have e2 : (L ++ [dOf x.1 1]).length = L.length + 1 := by simp
            refine ⟨k + 1, r1, A1, c1, by omega, by go_num, by rw [e1, e2], by rw [e1, e2]; exact k1, H2.out.grown k2 (by have := hbr.size; simp; omega) hrg, new_row k3 hrg (by have := hbr.size; simp; omega)⟩
          case measure => simp [intOf]; omega
        · have hb' : (x.2.2 == v) = false := by simp [hb]
          have HBB := Lib.hid hb
          clear hb
          go_wp2
          go_roundw
          case rel =>
            have e1 : endsTo es v (k + 1) = L := by rw [HS.out]; unfold endsE; rw [if_neg HA.out, if_neg HBB.out]; simp
            refine ⟨k + 1, r, A', c', by omega, by go_num, by rw [e1], by rw [e1]; exact HO.out.alloc _, HBX.out, hrg⟩
          case measure => simp [intOf]; omega
    · obtain rfl : k = n := by omega
      go_wp2
      go_ret
      exact ⟨r, A', c', rfl, hown, hbr, hrg⟩
end Go.Proofs.Ytklmckbpbloonaa

namespace Go.Proofs.Ytklmckbpbloonaa
open Go.RowKit

/-- How many of the first k vertices have no edges. -/
def aloneTo (vs : List Int) (es : List Edg) (k : Nat) : Nat := ((vs.take k).filter fun v => (endsL es v).isEmpty).length
def aloneN (vs : List Int) (es : List Edg) : Nat := (vs.filter fun v => (endsL es v).isEmpty).length
theorem aloneTo_all (vs : List Int) (es : List Edg) : aloneTo vs es vs.length = aloneN vs es := by unfold aloneTo aloneN; rw [List.take_length]
theorem aloneTo_succ {vs : List Int} {es : List Edg} {k : Nat} {v : Int} (h : vs[k]? = some v) : aloneTo vs es (k + 1) = aloneTo vs es k + if (endsL es v).isEmpty then 1 else 0 := by
  unfold aloneTo; rw [take_at h, List.filter_append, List.length_append]
  simp only [List.filter_cons, List.filter_nil]
  split <;> simp
theorem aloneTo_le (vs : List Int) (es : List Edg) (k : Nat) : aloneTo vs es k ≤ k := by
  unfold aloneTo
  have h1 := List.length_filter_le (fun v => (endsL es v).isEmpty) (vs.take k)
  have h2 := List.length_take_le k vs
  omega

set_option maxRecDepth 100000 in
set_option maxHeartbeats 1000000 in
theorem alone_any (B : Nat) (A A' : Option Addr) (n c n' c' : Nat) (vs : List Int) (es : List Edg) (w : World) (h : RdU w B A n c vs) (h' : RdE w B A' n' c' es) (hn' : n' ≤ 1000000) (hB : B ≤ w.heap.size) :
    Calls Try.prog 24 #[.agg #[.slice A n c, .slice A' n' c']] w fun e w' => e = .returned (.int .i64 (aloneTo vs es n)) ∧ Below w.heap.size w w' := by
  have HL' := Lib.hid h'.len
  obtain ⟨hn, hc⟩ := h.bd
  have HB := Lib.hid ((Below.refl w.heap.size w).alloc (Nat.le_refl _) (.cells #[.slice A n c, .slice A' n' c'] 25))
  have hG0 := Blk.new w 25 #[.slice A n c, .slice A' n' c']
  go_enter Try.func24, Try.ntmps24
  go_wp2
  go_loopw [3, 9] (fun m i wr => ∃ k : Nat, k ≤ n ∧ i = .int .i64 k ∧ m = .int .i64 (aloneTo vs es k) ∧ Below w.heap.size w wr ∧ Blk wr w.heap.size 25 #[.slice A n c, .slice A' n' c']) (fun _ i _ => n - (intOf i).toNat)
  case atStart => exact ⟨0, by omega, rfl, rfl, HB.out, hG0⟩
  case round =>
    obtain ⟨k, hk, rfl, rfl, hbr, hG⟩ := hrel
    clear hG0
    have hq := h.below (hbr.mono hB)
    have hq' := h'.below (hbr.mono hB)
    obtain ⟨hg0, hg1⟩ := hG.c2
    have hsz := hG.lt
    have hal := aloneTo_le vs es k
    by_cases hlt : k < n
    · obtain ⟨ad, x, rfl, hbl, hx, _, hc1⟩ := hq.at_ hlt
      have HS : Hid (aloneTo vs es (k + 1) = aloneTo vs es k + if (endsL es x).isEmpty then 1 else 0) := aloneTo_succ hx
      have HE : Hid (endsTo es x n' = endsL es x) := by show _ = _; rw [← HL'.out, endsTo_all]
      clear hx
      generalize aloneTo vs es k = S at hal HS ⊢
      by_cases he : (endsL es x).isEmpty = true
      · have he1 : (((endsTo es x n').length : Int) == 0) = true := by rw [HE.out]; simp at he; simp [he]
        have HEE := Lib.hid he
        clear he
        generalize hT : endsTo es x n' = T at *
        have HT := Lib.hid hT
        clear hT
        go_wp2_with (go_at_call 23; refine (ends_any B _ _ _ es _ _ _ hq' hn' (by omega)).mono ?_; rintro e w1 ⟨r1, A1, c1, rfl, k1, k2, k3⟩; rw [HT.out] at k1 ⊢)
        go_roundw
        case rel => exact ⟨k + 1, by omega, by go_num, by rw [HS.out, if_pos HEE.out]; go_num, hbr.trans (k2.mono hbr.size), hG.below k2 hsz⟩
        case measure => simp [intOf]; omega
      · have he1 : (((endsTo es x n').length : Int) == 0) = false := by rw [HE.out]; simp at he; simp [he]
        have HEE := Lib.hid he
        clear he
        generalize hT : endsTo es x n' = T at *
        have HT := Lib.hid hT
        clear hT
        go_wp2_with (go_at_call 23; refine (ends_any B _ _ _ es _ _ _ hq' hn' (by omega)).mono ?_; rintro e w1 ⟨r1, A1, c1, rfl, k1, k2, k3⟩; rw [HT.out] at k1 ⊢)
        go_roundw
        case rel => exact ⟨k + 1, by omega, by go_num, by rw [HS.out, if_neg HEE.out]; go_num, hbr.trans (k2.mono hbr.size), hG.below k2 hsz⟩
        case measure => simp [intOf]; omega
    · obtain rfl : k = n := by omega
      go_wp2
      go_ret
      exact ⟨rfl, hbr⟩

/-- The first place at which p holds. -/
def fidx {α : Type} (p : α → Bool) (l : List α) : Int := match l.findIdx? p with | some i => (i : Int) | none => -1
/-- The place of the edge with a number. -/
def edx (es : List Edg) (id : Int) : Int := idx (es.map (·.1)) id

set_option maxRecDepth 100000 in
set_option maxHeartbeats 400000 in
theorem edge1_any (g : Nat) (e : Edg) (id : Int) (w : World) (hg : w.cell? ⟨g, 0, none⟩ = some (.int .u32 id)) (hl : g < w.heap.size) :
    Calls Try.prog 61 #[.agg #[.int .u32 e.1, .int .u32 e.2.1, .int .u32 e.2.2], .pointer (some ⟨g, 0, none⟩)] w fun r w' => r = .returned (.bool (e.1 == id)) ∧ Below w.heap.size w w' := by
  go_enter Try.func61, Try.ntmps61
  go_wp2
  go_ret
  exact ⟨rfl, (Below.refl _ _).alloc (Nat.le_refl _) _⟩

set_option maxRecDepth 100000 in
set_option maxHeartbeats 1000000 in
/-- slices.IndexFunc over edges, whatever function it is handed that tells of each edge what p does, and leaves the old memory alone. -/
theorem indexFuncE (B : Nat) (A : Option Addr) (n c : Nat) (es : List Edg) (p : Edg → Bool) (f : Nat) (caps : Array Value) (w : World) (h : RdE w B A n c es) (hB : B ≤ w.heap.size)
    (he : ∀ args W, (callFunc f args).run Try.prog W = .ok (.enter f args) W)
    (hf : ∀ (e : Edg) (W : World), Below w.heap.size w W → e ∈ es → Calls Try.prog f (#[.agg #[.int .u32 e.1, .int .u32 e.2.1, .int .u32 e.2.2]] ++ caps) W fun r w' => r = .returned (.bool (p e)) ∧ Below W.heap.size W w') :
    Calls Try.prog 60 #[.slice A n c, .func (.func f) #[] caps] w fun r w' => r = .returned (.int .i64 (fidx p es)) ∧ Below w.heap.size w w' := by
  have HL := Lib.hid h.len
  obtain ⟨hn, hc⟩ := h.bd
  have HF := Lib.hid hf
  clear hf
  go_enter Try.func60, Try.ntmps60
  go_wp2
  go_loopw [8] (fun i wr => ∃ k : Nat, k ≤ n ∧ i = .int .i64 k ∧ Below w.heap.size w wr ∧ Hid (∀ j e, j < k → es[j]? = some e → p e = false)) (fun i _ => n - (intOf i).toNat)
  case atStart => exact ⟨0, by omega, rfl, Below.refl _ _, fun j e hj => absurd hj (by omega)⟩
  case round =>
    obtain ⟨k, hk, rfl, hbr, HJ⟩ := hrel
    have hq := h.below (hbr.mono hB)
    by_cases hlt : k < n
    · obtain ⟨ad, x, rfl, hbl, hx, _, hc1, hc2, hc3⟩ := hq.at_ hlt
      have HX := Lib.hid hx
      clear hx
      have hmem : x ∈ es := List.mem_of_getElem? HX.out
      cases hp : p x
      · have HP := Lib.hid hp
        clear hp
        go_wp2_with (show Calls Try.prog f _ _ _; refine (HF.out x _ hbr hmem).mono ?_; rintro r w1 ⟨rfl, hb1⟩; rw [HP.out])
        go_roundw
        case rel =>
          refine ⟨k + 1, by omega, by go_num, hbr.trans (hb1.mono hbr.size), fun j e hj hje => ?_⟩
          by_cases ejk : j = k
          · subst ejk; rw [HX.out] at hje; injection hje with hje; subst hje; exact HP.out
          · exact HJ.out j e (by omega) hje
        case measure => simp [intOf]; omega
      · have HP := Lib.hid hp
        clear hp
        go_wp2_with (show Calls Try.prog f _ _ _; refine (HF.out x _ hbr hmem).mono ?_; rintro r w1 ⟨rfl, hb1⟩; rw [HP.out])
        go_ret
        refine ⟨ret_int ?_, hbr.trans (hb1.mono hbr.size)⟩
        have hfi : es.findIdx? p = some k := by
          obtain ⟨hkl, hke⟩ := List.getElem?_eq_some_iff.1 HX.out
          rw [List.findIdx?_eq_some_iff_getElem]
          refine ⟨hkl, by rw [hke]; exact HP.out, fun j hj => ?_⟩
          have := HJ.out j es[j] hj (List.getElem?_eq_getElem (by omega))
          simp [this]
        unfold fidx; rw [hfi]
    · obtain rfl : k = n := by omega
      go_wp2
      go_ret
      refine ⟨ret_int ?_, hbr⟩
      have hfi : es.findIdx? p = none := by
        rw [List.findIdx?_eq_none_iff]
        intro e he
        obtain ⟨j, hj, e1⟩ := List.mem_iff_getElem.1 he
        exact HJ.out j e (by have := HL.out; omega) (by rw [List.getElem?_eq_getElem hj, e1])
      unfold fidx; rw [hfi]

theorem edx_eq (es : List Edg) (id : Int) : fidx (fun e => e.1 == id) es = edx es id := by
  unfold edx fidx
  cases h : es.findIdx? (fun e => e.1 == id) with
  | none =>
    rw [List.findIdx?_eq_none_iff] at h
    refine (idx_miss fun j hj e => ?_).symm
    rw [List.getElem?_map] at e
    obtain ⟨x, hx, e2⟩ := Option.map_eq_some_iff.1 e
    have := h x (List.mem_of_getElem? hx)
    simp [e2] at this
  | some i =>
    rw [List.findIdx?_eq_some_iff_getElem] at h
    obtain ⟨hi, h1, h2⟩ := h
    refine (idx_hit (fun j hj e => ?_) ?_).symm
    · have := h2 j hj
      rw [List.getElem?_map, List.getElem?_eq_getElem (by omega)] at e
      simp at e this
      exact this e
    · rw [List.getElem?_map, List.getElem?_eq_getElem hi]
      simp at h1
      simp [h1]

set_option maxRecDepth 100000 in
set_option maxHeartbeats 400000 in
theorem edge_any (B : Nat) (A : Option Addr) (n c : Nat) (es : List Edg) (v0 : Value) (id : Int) (w : World) (h : RdE w B A n c es) (hB : B ≤ w.heap.size) :
    Calls Try.prog 20 #[.agg #[v0, .slice A n c], .int .u32 id] w fun e w' => e = .returned (.int .i64 (edx es id)) ∧ Below w.heap.size w w' := by
  have hb : Below w.heap.size w ((w.alloc (.cells #[v0, .slice A n c] 25)).alloc (.cells #[.int .u32 id] 31)) := ((Below.refl _ _).alloc (Nat.le_refl _) _).alloc (by simp) _
  have hX := Blk.new (w.alloc (.cells #[v0, .slice A n c] 25)) 31 #[.int .u32 id]
  simp only [World.size_alloc] at hX
  have HR := Lib.hid (h.below (hb.mono hB))
  have HB := Lib.hid hb
  have HX := Lib.hid hX
  have hent : ∀ args W, (callFunc 61 args).run Try.prog W = .ok (.enter 61 args) W := enters_of Try.func61 (by kernel_rfl) rfl
  have HEN := Lib.hid hent
  have hfn : ∀ (e : Edg) (W : World), Below ((w.alloc (.cells #[v0, .slice A n c] 25)).alloc (.cells #[.int .u32 id] 31)).heap.size ((w.alloc (.cells #[v0, .slice A n c] 25)).alloc (.cells #[.int .u32 id] 31)) W → e ∈ es →
      Calls Try.prog 61 (#[.agg #[.int .u32 e.1, .int .u32 e.2.1, .int .u32 e.2.2]] ++ #[.pointer (some ⟨w.heap.size + 1, 0, none⟩)]) W fun r w' => r = .returned (.bool (e.1 == id)) ∧ Below W.heap.size W w' := by
    intro e W hW _
    rw [List.append_toArray]
    exact edge1_any _ e id W ((HX.out.below hW (by simp)).c1) (by have := hW.size; simp at this; omega)
  have HFN := Lib.hid hfn
  clear hb hX hent hfn
  go_enter Try.func20, Try.ntmps20
  go_wp2_with (go_at_call 60; refine (indexFuncE B _ _ _ es (fun e => e.1 == id) 61 _ _ HR.out (by simp; omega) HEN.out HFN.out).mono ?_; rintro r w1 ⟨rfl, hb1⟩)
  go_ret
  exact ⟨ret_int (edx_eq es id), HB.out.trans (hb1.mono (by simp; omega))⟩

set_option maxRecDepth 100000 in
set_option maxHeartbeats 400000 in
theorem rfinde_any (B : Nat) (A : Option Addr) (n c : Nat) (es : List Edg) (v0 : Value) (id : Int) (w : World) (h : RdE w B A n c es) (hB : B ≤ w.heap.size) :
    Calls Try.prog 21 #[.agg #[v0, .slice A n c], .int .u32 id] w fun e w' => e = .returned (.int .i64 (edx es id)) ∧ Below w.heap.size w w' := by
  have HL := Lib.hid h.len
  obtain ⟨hn, hc⟩ := h.bd
  have HB := Lib.hid ((Below.refl w.heap.size w).alloc (Nat.le_refl _) (.cells #[v0, .slice A n c] 25))
  go_enter Try.func21, Try.ntmps21
  go_wp2
  go_loopw [10] (fun i wr => ∃ k : Nat, k ≤ n ∧ i = .int .i64 k ∧ Below w.heap.size w wr ∧ Hid (∀ j, j < k → (es.map (·.1))[j]? ≠ some id)) (fun i _ => n - (intOf i).toNat)
  case atStart => exact ⟨0, by omega, rfl, HB.out, fun j hj => absurd hj (by omega)⟩
  case round =>
    obtain ⟨k, hk, rfl, hbr, HJ⟩ := hrel
    have hq := h.below (hbr.mono hB)
    by_cases hlt : k < n
    · obtain ⟨ad, x, rfl, hbl, hx, _, hc1, hc2, hc3⟩ := hq.at_ hlt
      have HX := Lib.hid hx
      have HBX := Lib.hid (hbr.alloc hbr.size (.cells #[.int .u32 x.1, .int .u32 x.2.1, .int .u32 x.2.2] 39))
      clear hx
      by_cases he : x.1 = id
      · have he' : (x.1 == id) = true := by simp [he]
        have HE := Lib.hid he
        clear he
        go_wp2
        go_ret
        exact ⟨ret_int (idx_hit HJ.out (by rw [List.getElem?_map, HX.out]; simp [HE.out])).symm, HBX.out⟩
      · have he' : (x.1 == id) = false := by simp [he]
        have HE := Lib.hid he
        clear he
        go_wp2
        go_roundw
        case rel =>
          refine ⟨k + 1, by omega, by go_num, HBX.out, fun j hj => ?_⟩
          by_cases e : j = k
          · subst e; rw [List.getElem?_map, HX.out]; intro e; simp at e; exact HE.out e
          · exact HJ.out j (by omega)
        case measure => simp [intOf]; omega
    · go_wp2
      go_ret
      exact ⟨ret_int (idx_miss fun j hj => HJ.out j (by have := HL.out; rw [List.length_map] at hj; omega)).symm, hbr⟩
end Go.Proofs.Ytklmckbpbloonaa

namespace Go.Proofs.Ytklmckbpbloonaa
open Go.RowKit

set_option maxRecDepth 100000 in
set_option maxHeartbeats 1000000 in
theorem indexFuncUU (B : Nat) (A : Option Addr) (n c : Nat) (xss : List (List Int)) (p : List Int → Bool) (f : Nat) (caps : Array Value) (w : World) (h : RdUU w B A n c xss)
    (he : ∀ args W, (callFunc f args).run Try.prog W = .ok (.enter f args) W)
    (hf : ∀ (A' : Option Addr) (n' c' : Nat) (xs : List Int), RdU w B A' n' c' xs → Calls Try.prog f (#[.slice A' n' c'] ++ caps) w fun r w' => r = .returned (.bool (p xs)) ∧ w = w') :
    Calls Try.prog 100 #[.slice A n c, .func (.func f) #[] caps] w fun r w' => r = .returned (.int .i64 (fidx p xss)) ∧ w = w' := by
  have HL := Lib.hid h.len
  have hnc : n ≤ c ∧ c ≤ 9223372036854775807 := by obtain ⟨_, _, h1, h2, _⟩ := h; exact ⟨h1, h2⟩
  obtain ⟨hn, hc⟩ := hnc
  have HF := Lib.hid hf
  clear hf
  go_enter Try.func100, Try.ntmps100
  go_wp2
  go_loopw [8] (fun i wr => ∃ k : Nat, k ≤ n ∧ i = .int .i64 k ∧ wr = w ∧ Hid (∀ j e, j < k → xss[j]? = some e → p e = false)) (fun i _ => n - (intOf i).toNat)
  case atStart => exact ⟨0, by omega, rfl, rfl, fun j e hj => absurd hj (by omega)⟩
  case round =>
    obtain ⟨k, hk, rfl, rfl, HJ⟩ := hrel
    by_cases hlt : k < n
    · obtain ⟨ad, x, A', n', c', rfl, hbl, hx, hc1, hR⟩ := h.at_ hlt
      have HX := Lib.hid hx
      clear hx
      cases hp : p x
      · have HP := Lib.hid hp
        clear hp
        go_wp2_with (show Calls Try.prog f _ _ _; refine (HF.out _ _ _ x hR).mono ?_; rintro r w1 ⟨rfl, rfl⟩; rw [HP.out])
        go_roundw
        case rel =>
          refine ⟨k + 1, by omega, by go_num, trivial, fun j e hj hje => ?_⟩
          by_cases ejk : j = k
          · subst ejk; rw [HX.out] at hje; injection hje with hje; subst hje; exact HP.out
          · exact HJ.out j e (by omega) hje
        case measure => simp [intOf]; omega
      · have HP := Lib.hid hp
        clear hp
        go_wp2_with (show Calls Try.prog f _ _ _; refine (HF.out _ _ _ x hR).mono ?_; rintro r w1 ⟨rfl, rfl⟩; rw [HP.out])
        go_ret
        refine ⟨ret_int ?_, rfl⟩
        have hfi : xss.findIdx? p = some k := by
          obtain ⟨hkl, hke⟩ := List.getElem?_eq_some_iff.1 HX.out
          rw [List.findIdx?_eq_some_iff_getElem]
          refine ⟨hkl, by rw [hke]; exact HP.out, fun j hj => ?_⟩
          have := HJ.out j xss[j] hj (List.getElem?_eq_getElem (by omega))
          simp [this]
        unfold fidx; rw [hfi]
    · obtain rfl : k = n := by omega
      go_wp2
      go_ret
      refine ⟨ret_int ?_, rfl⟩
      have hfi : xss.findIdx? p = none := by
        rw [List.findIdx?_eq_none_iff]
        intro e he
        obtain ⟨j, hj, e1⟩ := List.mem_iff_getElem.1 he
        exact HJ.out j e (by have := HL.out; omega) (by rw [List.getElem?_eq_getElem hj, e1])
      unfold fidx; rw [hfi]
theorem fidx_any {α : Type} (p : α → Bool) (l : List α) : decide (0 ≤ fidx p l) = l.any p := by
  unfold fidx
  cases h : l.findIdx? p with
  | none =>
    rw [List.findIdx?_eq_none_iff] at h
    have : l.any p = false := by rw [List.any_eq_false]; intro x hx; simp [h x hx]
    rw [this]; simp
  | some i =>
    rw [List.findIdx?_eq_some_iff_getElem] at h
    obtain ⟨hi, h1, _⟩ := h
    have : l.any p = true := List.any_eq_true.2 ⟨l[i], List.getElem_mem hi, h1⟩
    rw [this]; simp
set_option maxHeartbeats 1000000 in
theorem containsFuncUU (B : Nat) (A : Option Addr) (n c : Nat) (xss : List (List Int)) (p : List Int → Bool) (f : Nat) (caps : Array Value) (w : World) (h : RdUU w B A n c xss)
    (he : ∀ args W, (callFunc f args).run Try.prog W = .ok (.enter f args) W)
    (hf : ∀ (A' : Option Addr) (n' c' : Nat) (xs : List Int), RdU w B A' n' c' xs → Calls Try.prog f (#[.slice A' n' c'] ++ caps) w fun r w' => r = .returned (.bool (p xs)) ∧ w = w') :
    Calls Try.prog 67 #[.slice A n c, .func (.func f) #[] caps] w fun r w' => r = .returned (.bool (xss.any p)) ∧ w = w' := by
  have HF := Lib.hid hf
  clear hf
  go_enter Try.func67, Try.ntmps67
  go_wp2_with (go_at_call 100; refine (indexFuncUU B A n c xss p f caps _ h he HF.out).mono ?_; rintro e w' ⟨rfl, rfl⟩)
  go_ret
  exact ⟨ret_bool (fidx_any p xss), rfl⟩
theorem both1_any (B g : Nat) (A : Option Addr) (n c : Nat) (xs : List Int) (x : Int) (w : World) (h : RdU w B A n c xs) (hx : w.cell? ⟨g, 0, none⟩ = some (.int .u32 x)) (hg : g < w.heap.size) :
    Calls Try.prog 68 #[.slice A n c, .pointer (some ⟨g, 0, none⟩)] w fun r w' => r = .returned (.bool (!hasB xs x)) ∧ w = w' := by
  go_enter Try.func68, Try.ntmps68
  go_wp2_with (go_at_call 52; refine (contains_any B _ _ _ xs _ _ h).mono ?_; rintro e w' ⟨rfl, rfl⟩)
  go_ret
  exact ⟨rfl, rfl⟩
end Go.Proofs.Ytklmckbpbloonaa

namespace Go.Proofs.Ytklmckbpbloonaa
open Go.RowKit

theorem RdUU.tail {w : World} {B n c : Nat} {ad : Addr} {xss : List (List Int)} (h : RdUU w B (some ad) n c xss) (hn : 0 < n) : RdUU w B (some (ad.add 1)) (n - 1) (c - 1) (xss.drop 1) := by
  obtain ⟨hs, h1, h2, h3, h4, h5, h6⟩ := h
  refine ⟨hs.drop 1, ⟨?_, fun hn1 => ?_⟩, by omega, by omega, (fun e => by cases e), by simp [h5], fun j q xs a b => h6 (j + 1) q xs (by rw [List.getElem?_drop] at a; rwa [Nat.add_comm] at a) (by rw [List.getElem?_drop] at b; rwa [Nat.add_comm] at b)⟩
  · have := h1.1
    simp at this ⊢
    omega
  · obtain ⟨a, e, hb, hc⟩ := h1.2 hn
    cases e
    refine ⟨_, rfl, by rw [block_of_add]; exact hb, fun j u hu => ?_⟩
    rw [add_of_add]
    refine hc (1 + j) u ?_
    rw [List.map_drop, List.getElem?_drop] at hu
    exact hu
theorem RdUU.cut1 {w : World} {B n c : Nat} {A : Option Addr} {xss : List (List Int)} (h : RdUU w B A n c xss) (hn : 0 < n) : RdUU w B (if c = 1 then A else A.map (·.add 1)) (n - 1) (c - 1) (xss.drop 1) := by
  have hbd := h.bd
  have hl := h.len
  cases A with
  | none => obtain ⟨_, _, _, _, h4, _⟩ := h; have := h4 rfl; omega
  | some ad =>
    by_cases hc : c = 1
    · rw [if_pos hc]
      have hn1 : n = 1 := by omega
      have : xss.drop 1 = [] := List.drop_eq_nil_of_le (by omega)
      rw [this]
      exact ⟨[], ⟨by simp; omega, fun h0 => by omega⟩, by omega, by omega, (fun e => by cases e), rfl, fun j q xs a => by simp at a⟩
    · rw [if_neg hc]; exact h.tail hn
end Go.Proofs.Ytklmckbpbloonaa
