/- Parts of the proof: Own. -/
import Derived.Test.YtklmckbpbloonaaBC1
namespace Go.Proofs.Ytklmckbpbloonaa
open Go.RowKit

/-! The two kinds of rows of this program's lower layers. -/
theorem one_U (xs : List Int) : ∀ u ∈ U xs, u.oneCell' = true := by
  intro u hu
  simp only [U, List.mem_map] at hu
  obtain ⟨x, _, rfl⟩ := hu
  rfl
theorem one_Ed (es : List Edg) : ∀ u ∈ Ed es, u.oneCell' = true := by
  intro u hu
  simp only [Ed, List.mem_flatMap] at hu
  obtain ⟨x, _, hx⟩ := hu
  simp only [List.mem_cons, List.not_mem_nil, or_false] at hx
  rcases hx with rfl | rfl | rfl <;> rfl
theorem U_append (xs ys : List Int) : U (xs ++ ys) = U xs ++ U ys := by simp [U]
theorem Ed_append (xs ys : List Edg) : Ed (xs ++ ys) = Ed xs ++ Ed ys := by simp [Ed]
theorem infoU : (Try.prog.info? 31).map (fun i => (i.zero, i.size, i.bytes)) = some (some (.int .u32 0), 1, 4) := by kernel_rfl
theorem infoE : (Try.prog.info? 39).map (fun i => (i.zero, i.size, i.bytes)) = some (some (.agg #[.int .u32 0, .int .u32 0, .int .u32 0]), 3, 12) := by kernel_rfl

def u32s (xs : List Int) : Prop := ∀ x ∈ xs, 0 ≤ x ∧ x < 4294967296
def edgs (es : List Edg) : Prop := ∀ e ∈ es, (0 ≤ e.1 ∧ e.1 < 4294967296) ∧ (0 ≤ e.2.1 ∧ e.2.1 < 4294967296) ∧ (0 ≤ e.2.2 ∧ e.2.2 < 4294967296)
def OwnU (w : World) (r : Option Nat) (A : Option Addr) (n c : Nat) (xs : List Int) : Prop := (Own w 31 1 r A n c (U xs) ∧ (A = none → r = none)) ∧ u32s xs
def OwnE (w : World) (r : Option Nat) (A : Option Addr) (n c : Nat) (es : List Edg) : Prop := (Own w 39 3 r A n c (Ed es) ∧ (A = none → r = none)) ∧ edgs es
section
variable {w w' : World} {r : Option Nat} {A : Option Addr} {n c : Nat} {xs : List Int} {es : List Edg}
theorem OwnU.nil_ (w : World) (A : Option Addr) : OwnU w none A 0 0 [] := ⟨⟨Own.nil_ w _ 1 A, fun _ => rfl⟩, by intro x hx; simp at hx⟩
theorem OwnE.nil_ (w : World) (A : Option Addr) : OwnE w none A 0 0 [] := ⟨⟨Own.nil_ w _ 3 A, fun _ => rfl⟩, by intro x hx; simp at hx⟩
theorem OwnU.rd (h : OwnU w r A n c xs) : RdU w w.heap.size A n c xs := ⟨h.1.1.reads, h.1.1.1, h.1.1.2.1, fun hA => h.1.1.cap0 (h.1.2 hA), h.2⟩
theorem OwnE.rd (h : OwnE w r A n c es) : RdE w w.heap.size A n c es := ⟨h.1.1.reads, h.1.1.1, h.1.1.2.1, fun hA => h.1.1.cap0 (h.1.2 hA), h.2⟩
theorem OwnU.len (h : OwnU w r A n c xs) : xs.length = n := h.rd.len
theorem OwnE.len (h : OwnE w r A n c es) : es.length = n := h.rd.len
theorem OwnU.lt (h : OwnU w r A n c xs) : ∀ g, r = some g → g < w.heap.size := h.1.1.lt
theorem OwnE.lt (h : OwnE w r A n c es) : ∀ g, r = some g → g < w.heap.size := h.1.1.lt
theorem OwnU.kept {row : Option Nat} (h : OwnU w r A n c xs) (hg : w.grownBy w' row) (hne : r = none ∨ r ≠ row) : OwnU w' r A n c xs := ⟨⟨h.1.1.kept hg hne, h.1.2⟩, h.2⟩
theorem OwnE.kept {row : Option Nat} (h : OwnE w r A n c es) (hg : w.grownBy w' row) (hne : r = none ∨ r ≠ row) : OwnE w' r A n c es := ⟨⟨h.1.1.kept hg hne, h.1.2⟩, h.2⟩
theorem OwnU.alloc (h : OwnU w r A n c xs) (o : Obj) : OwnU (w.alloc o) r A n c xs := ⟨⟨h.1.1.alloc o, h.1.2⟩, h.2⟩
theorem OwnE.alloc (h : OwnE w r A n c es) (o : Obj) : OwnE (w.alloc o) r A n c es := ⟨⟨h.1.1.alloc o, h.1.2⟩, h.2⟩
theorem OwnU.drewN (h : OwnU w r A n c xs) (q : Nat) : OwnU (w.drewN q) r A n c xs := h
theorem OwnE.drewN (h : OwnE w r A n c es) (q : Nat) : OwnE (w.drewN q) r A n c es := h
theorem OwnU.below {B : Nat} (h : OwnU w r A n c xs) (hb : Below B w w') (hB : ∀ g, r = some g → g < B) : OwnU w' r A n c xs := ⟨⟨h.1.1.below hb hB, h.1.2⟩, h.2⟩
theorem OwnE.below {B : Nat} (h : OwnE w r A n c es) (hb : Below B w w') (hB : ∀ g, r = some g → g < B) : OwnE w' r A n c es := ⟨⟨h.1.1.below hb hB, h.1.2⟩, h.2⟩
theorem OwnU.setCell_far (h : OwnU w r A n c xs) {p : Addr} (hp : ∀ g, r = some g → g ≠ p.block) (u : Value) : OwnU (w.setCell p u) r A n c xs := ⟨⟨h.1.1.setCell_far hp u, h.1.2⟩, h.2⟩
theorem OwnE.setCell_far (h : OwnE w r A n c es) {p : Addr} (hp : ∀ g, r = some g → g ≠ p.block) (u : Value) : OwnE (w.setCell p u) r A n c es := ⟨⟨h.1.1.setCell_far hp u, h.1.2⟩, h.2⟩
end
theorem none_of_own {w : World} {e : TypeId} {size n c : Nat} {r : Option Nat} {A : Option Addr} {xs : List Value} (h : Own w e size r A n c xs) : A = none → r = none := by
  intro hA
  cases r with
  | none => rfl
  | some g => obtain ⟨_, _, _, h4, _⟩ := h; rw [h4] at hA; cases hA

/-- 'append(out, ys...)' at []uint32, whatever out and ys. -/
theorem appU {ops : Array Oper} {rest : List Oper} {o : Oper} {a : Act} {Q : Exit → Act → World → Prop} (hgd : o.guard = none) (s x : Operand)
    (ho : o.op = .call { callee := .builtin .append, args := #[s, x], argTypes := #[22, 22] }) (w : World)
    (r : Option Nat) (A : Option Addr) (n c : Nat) (xs : List Int) (hs : a.eval s = .slice A n c) (hown : OwnU w r A n c xs)
    (B : Nat) (A' : Option Addr) (m c' : Nat) (ys : List Int) (hx : a.eval x = .slice A' m c') (hr : RdU w B A' m c' ys) (hb : n + m ≤ 17592186044416)
    (h : ∀ r' A'' c'' w', OwnU w' r' A'' (n + m) c'' (xs ++ ys) → w.grownBy w' r → (r' = r ∨ ∀ g, r' = some g → w.heap.size ≤ g) → wpList Try.prog ops Q rest (a.put o.dst (.slice A'' (n + m) c'')) w') : wpList Try.prog ops Q (o :: rest) a w := by
  obtain ⟨i0, hi, hz0, hz1, hz2⟩ := info_parts infoU
  refine wpList_append_x w hgd s x _ ho 31 i0 _ 1 4 Try.underlying22 hi hz0 hz1 hz2 rfl (by decide) r A n c (U xs) hs hown.1.1 hown.1.2 B A' m c' (U ys) hx hr.1 (one_U ys) (by unfold maxLen; omega) (by omega) ?_
  intro r' A'' c'' w' h2 h3 h4
  rw [← U_append] at h2
  exact h r' A'' c'' w' ⟨⟨h2, none_of_own h2⟩, fun x hx => by rcases List.mem_append.1 hx with hx | hx; exact hown.2 x hx; exact hr.2.2.2.2 x hx⟩ h3 h4
theorem appE {ops : Array Oper} {rest : List Oper} {o : Oper} {a : Act} {Q : Exit → Act → World → Prop} (hgd : o.guard = none) (s x : Operand)
    (ho : o.op = .call { callee := .builtin .append, args := #[s, x], argTypes := #[23, 23] }) (w : World)
    (r : Option Nat) (A : Option Addr) (n c : Nat) (xs : List Edg) (hs : a.eval s = .slice A n c) (hown : OwnE w r A n c xs)
    (B : Nat) (A' : Option Addr) (m c' : Nat) (ys : List Edg) (hx : a.eval x = .slice A' m c') (hr : RdE w B A' m c' ys) (hb : n + m ≤ 4398046511104)
    (h : ∀ r' A'' c'' w', OwnE w' r' A'' (n + m) c'' (xs ++ ys) → w.grownBy w' r → (r' = r ∨ ∀ g, r' = some g → w.heap.size ≤ g) → wpList Try.prog ops Q rest (a.put o.dst (.slice A'' (n + m) c'')) w') : wpList Try.prog ops Q (o :: rest) a w := by
  obtain ⟨i0, hi, hz0, hz1, hz2⟩ := info_parts infoE
  refine wpList_append_x w hgd s x _ ho 39 i0 _ 3 12 Try.underlying23 hi hz0 hz1 hz2 rfl (by decide) r A n c (Ed xs) hs hown.1.1 hown.1.2 B A' m c' (Ed ys) hx hr.1 (one_Ed ys) (by unfold maxLen; omega) (by omega) ?_
  intro r' A'' c'' w' h2 h3 h4
  rw [← Ed_append] at h2
  exact h r' A'' c'' w' ⟨⟨h2, none_of_own h2⟩, fun x hx => by rcases List.mem_append.1 hx with hx | hx; exact hown.2 x hx; exact hr.2.2.2.2 x hx⟩ h3 h4
theorem stepU {ops : Array Oper} {o : Oper} {a : Act} {K : Act → World → Prop} {Q : Exit → Act → World → Prop} {E : Prop} (hgd : o.guard = none) (s x : Operand)
    (ho : o.op = .call { callee := .builtin .append, args := #[s, x], argTypes := #[22, 22] }) (w : World)
    (r : Option Nat) (A : Option Addr) (n c : Nat) (xs : List Int) (hs : a.eval s = .slice A n c) (hown : OwnU w r A n c xs)
    (B : Nat) (A' : Option Addr) (m c' : Nat) (ys : List Int) (hx : a.eval x = .slice A' m c') (hr : RdU w B A' m c' ys) (hb : n + m ≤ 17592186044416)
    (h : ∀ r' A'' c'' w', OwnU w' r' A'' (n + m) c'' (xs ++ ys) → w.grownBy w' r → (r' = r ∨ ∀ g, r' = some g → w.heap.size ≤ g) → K (a.put o.dst (.slice A'' (n + m) c'')) w') :
    if Region.wanted o (yielded ops a.tmps) = true then Oper.wp Try.prog o a w K Q else E := by
  obtain ⟨i0, hi, hz0, hz1, hz2⟩ := info_parts infoU
  refine step_append_x w hgd s x _ ho 31 i0 _ 1 4 Try.underlying22 hi hz0 hz1 hz2 rfl (by decide) r A n c (U xs) hs hown.1.1 hown.1.2 B A' m c' (U ys) hx hr.1 (one_U ys) (by unfold maxLen; omega) (by omega) ?_
  intro r' A'' c'' w' h2 h3 h4
  rw [← U_append] at h2
  exact h r' A'' c'' w' ⟨⟨h2, none_of_own h2⟩, fun x hx => by rcases List.mem_append.1 hx with hx | hx; exact hown.2 x hx; exact hr.2.2.2.2 x hx⟩ h3 h4
/-- One more at the end: the translation lays it in a block of its own first. -/
theorem RdU.one {w : World} {g : Nat} {x : Int} (h : Blk w g 31 #[.int .u32 x]) (hx : 0 ≤ x ∧ x < 4294967296) : RdU w w.heap.size (some ⟨g, 0, none⟩) 1 1 [x] := by
  refine ⟨⟨rfl, fun _ => ⟨_, rfl, h.lt, fun j u hu => ?_⟩⟩, Nat.le_refl _, by omega, (fun h => by cases h), by intro y hy; simp at hy; subst hy; exact hx⟩
  rw [Addr.add_lit, Nat.zero_add, h.cell, ← hu]; simp [U]
theorem RdE.one {w : World} {g : Nat} {x : Edg} (h : Blk w g 39 #[.int .u32 x.1, .int .u32 x.2.1, .int .u32 x.2.2]) (hx : (0 ≤ x.1 ∧ x.1 < 4294967296) ∧ (0 ≤ x.2.1 ∧ x.2.1 < 4294967296) ∧ (0 ≤ x.2.2 ∧ x.2.2 < 4294967296)) :
    RdE w w.heap.size (some ⟨g, 0, none⟩) 1 1 [x] := by
  refine ⟨⟨rfl, fun _ => ⟨_, rfl, h.lt, fun j u hu => ?_⟩⟩, Nat.le_refl _, by omega, (fun h => by cases h), by intro y hy; simp at hy; subst hy; exact hx⟩
  rw [Addr.add_lit, Nat.zero_add, h.cell, ← hu]; simp [Ed]

/-- 'append(out, y)' at []uint32, at []api.Edge. -/
theorem appU1 {ops : Array Oper} {rest : List Oper} {o : Oper} {a : Act} {Q : Exit → Act → World → Prop} (hgd : o.guard = none) (s x : Operand)
    (ho : o.op = .call { callee := .builtin .append, args := #[s, x], argTypes := #[22, 22] }) (w : World)
    (r : Option Nat) (A : Option Addr) (n c : Nat) (xs : List Int) (hs : a.eval s = .slice A n c) (hown : OwnU w r A n c xs)
    (g : Nat) (y : Int) (hx : a.eval x = .slice (some ⟨g, 0, none⟩) 1 1) (hblk : Blk w g 31 #[.int .u32 y]) (hy : 0 ≤ y ∧ y < 4294967296) (hb : n ≤ 8796093022208)
    (h : ∀ r' A'' c'' w', OwnU w' r' A'' (n + 1) c'' (xs ++ [y]) → w.grownBy w' r → (r' = r ∨ ∀ g, r' = some g → w.heap.size ≤ g) → wpList Try.prog ops Q rest (a.put o.dst (.slice A'' (n + 1) c'')) w') : wpList Try.prog ops Q (o :: rest) a w :=
  appU hgd s x ho w r A n c xs hs hown w.heap.size (some ⟨g, 0, none⟩) 1 1 [y] hx (RdU.one hblk hy) (by omega) h
theorem appE1 {ops : Array Oper} {rest : List Oper} {o : Oper} {a : Act} {Q : Exit → Act → World → Prop} (hgd : o.guard = none) (s x : Operand)
    (ho : o.op = .call { callee := .builtin .append, args := #[s, x], argTypes := #[23, 23] }) (w : World)
    (r : Option Nat) (A : Option Addr) (n c : Nat) (xs : List Edg) (hs : a.eval s = .slice A n c) (hown : OwnE w r A n c xs)
    (g : Nat) (y : Edg) (hx : a.eval x = .slice (some ⟨g, 0, none⟩) 1 1) (hblk : Blk w g 39 #[.int .u32 y.1, .int .u32 y.2.1, .int .u32 y.2.2]) (hy : (0 ≤ y.1 ∧ y.1 < 4294967296) ∧ (0 ≤ y.2.1 ∧ y.2.1 < 4294967296) ∧ (0 ≤ y.2.2 ∧ y.2.2 < 4294967296)) (hb : n ≤ 2199023255552)
    (h : ∀ r' A'' c'' w', OwnE w' r' A'' (n + 1) c'' (xs ++ [y]) → w.grownBy w' r → (r' = r ∨ ∀ g, r' = some g → w.heap.size ≤ g) → wpList Try.prog ops Q rest (a.put o.dst (.slice A'' (n + 1) c'')) w') : wpList Try.prog ops Q (o :: rest) a w :=
  appE hgd s x ho w r A n c xs hs hown w.heap.size (some ⟨g, 0, none⟩) 1 1 [y] hx (RdE.one hblk hy) (by omega) h

/-- A [][]uint32 that reads as a list of lists. -/
def hdV (h : Option Addr × Nat × Nat) : Value := .slice h.1 h.2.1 h.2.2
def RdUU (w : World) (B : Nat) (A : Option Addr) (n c : Nat) (xss : List (List Int)) : Prop :=
  ∃ hs : List (Option Addr × Nat × Nat), Reads w B 1 A n (hs.map hdV) ∧ n ≤ c ∧ c ≤ 9223372036854775807 ∧ (A = none → c = 0) ∧ hs.length = xss.length ∧
    ∀ (j : Nat) (h : Option Addr × Nat × Nat) (xs : List Int), hs[j]? = some h → xss[j]? = some xs → RdU w B h.1 h.2.1 h.2.2 xs
section
variable {w w' : World} {B B' n c : Nat} {A : Option Addr} {xss : List (List Int)}
theorem RdUU.len (h : RdUU w B A n c xss) : xss.length = n := by obtain ⟨hs, h1, _, _, _, h2, _⟩ := h; have := h1.1; rw [List.length_map] at this; omega
theorem RdUU.bd (h : RdUU w B A n c xss) : n ≤ c ∧ c ≤ 9223372036854775807 := by obtain ⟨hs, _, h1, h2, _⟩ := h; exact ⟨h1, h2⟩
theorem RdUU.below (h : RdUU w B A n c xss) (hb : Below B w w') : RdUU w' B A n c xss := by
  obtain ⟨hs, h1, h2, h3, h4, h5, h6⟩ := h
  exact ⟨hs, h1.below hb, h2, h3, h4, h5, fun j h xs a b => (h6 j h xs a b).below hb⟩
theorem RdUU.more (h : RdUU w B A n c xss) (hB : B ≤ B') : RdUU w B' A n c xss := by
  obtain ⟨hs, h1, h2, h3, h4, h5, h6⟩ := h
  exact ⟨hs, h1.more hB, h2, h3, h4, h5, fun j h xs a b => (h6 j h xs a b).more hB⟩
theorem RdUU.drewN (h : RdUU w B A n c xss) (q : Nat) : RdUU (w.drewN q) B A n c xss := h
theorem RdUU.at_ {k : Nat} (h : RdUU w B A n c xss) (hk : k < n) :
    ∃ ad xs A' n' c', A = some ad ∧ ad.block < B ∧ xss[k]? = some xs ∧ w.cell? (ad.add k) = some (.slice A' n' c') ∧ RdU w B A' n' c' xs := by
  have hl := h.len
  obtain ⟨hs, h1, h2, h3, h4, h5, h6⟩ := h
  obtain ⟨ad, e, hb, hc⟩ := h1.2 (by omega)
  have e1 : hs[k]? = some (hs[k]'(by omega)) := List.getElem?_eq_getElem (by omega)
  have e2 : xss[k]? = some (xss[k]'(by omega)) := List.getElem?_eq_getElem (by omega)
  refine ⟨ad, _, _, _, _, e, hb, e2, hc k _ (by rw [List.getElem?_map, e1]; rfl), h6 k _ _ e1 e2⟩
end
/-- One new row of three slices, as a variadic call of three lays them. -/
theorem RdUU.three {w : World} {g B : Nat} {t : TypeId} {h0 h1 h2 : Option Addr × Nat × Nat} {x0 x1 x2 : List Int} (h : Blk w g t #[hdV h0, hdV h1, hdV h2]) (hg : g < B)
    (a0 : RdU w B h0.1 h0.2.1 h0.2.2 x0) (a1 : RdU w B h1.1 h1.2.1 h1.2.2 x1) (a2 : RdU w B h2.1 h2.2.1 h2.2.2 x2) : RdUU w B (some ⟨g, 0, none⟩) 3 3 [x0, x1, x2] := by
  refine ⟨[h0, h1, h2], ⟨rfl, fun _ => ⟨_, rfl, hg, fun j u hu => ?_⟩⟩, Nat.le_refl _, by omega, (fun h => by cases h), rfl, fun j h xs e1 e2 => ?_⟩
  · rw [Addr.add_lit, Nat.zero_add, h.cell, ← hu]; simp
  · match j, e1, e2 with
    | 0, e1, e2 => simp at e1 e2; subst e1; subst e2; exact a0
    | 1, e1, e2 => simp at e1 e2; subst e1; subst e2; exact a1
    | 2, e1, e2 => simp at e1 e2; subst e1; subst e2; exact a2
    | k + 3, e1, e2 => simp at e1

/-- Pieces of a slice that came in, as Go cuts them. -/
theorem Reads.cut {w : World} {B size n cap k : Nat} {A : Option Addr} {xs : List Value} (h : Reads w B size A n xs) (hk : k ≤ n) (hc : n ≤ cap) :
    Reads w B size (if cap = k then A else A.map (·.add (k * size))) (n - k) (xs.drop (k * size)) := by
  refine ⟨by rw [List.length_drop, h.1, Nat.sub_mul], fun hn => ?_⟩
  obtain ⟨ad, rfl, hb, hcell⟩ := h.2 (by omega)
  rw [if_neg (by omega)]
  refine ⟨ad.add (k * size), rfl, by rw [block_of_add]; exact hb, fun j u hu => ?_⟩
  rw [add_of_add]
  exact hcell _ u (by rw [← hu, List.getElem?_drop])
theorem U_drop (xs : List Int) (k : Nat) : U (xs.drop k) = (U xs).drop k := by simp [U]
theorem U_take (xs : List Int) (k : Nat) : U (xs.take k) = (U xs).take k := by simp [U]
theorem RdU.cut {w : World} {B n c k : Nat} {A : Option Addr} {xs : List Int} (h : RdU w B A n c xs) (hk : k ≤ n) :
    RdU w B (if c = k then A else A.map (·.add k)) (n - k) (c - k) (xs.drop k) := by
  obtain ⟨h1, h2, h3, h4, h5⟩ := h
  have := h1.cut hk h2
  rw [Nat.mul_one, ← U_drop] at this
  refine ⟨this, by omega, by omega, fun e => ?_, fun x hx => h5 x (List.mem_of_mem_drop hx)⟩
  split at e
  · omega
  · cases A with
    | none => have := h4 rfl; omega
    | some a => cases e
theorem RdU.cutTo {w : World} {B n c k : Nat} {A : Option Addr} {xs : List Int} (h : RdU w B A n c xs) (hk : k ≤ n) : RdU w B A k c (xs.take k) := by
  obtain ⟨h1, h2, h3, h4, h5⟩ := h
  refine ⟨⟨by rw [U_take, List.length_take, h1.1]; omega, fun hn => ?_⟩, by omega, h3, h4, fun x hx => h5 x (List.mem_of_mem_take hx)⟩
  obtain ⟨ad, e, hb, hc⟩ := h1.2 (by omega)
  refine ⟨ad, e, hb, fun j u hu => hc j u ?_⟩
  rw [U_take] at hu
  rw [List.getElem?_take] at hu
  split at hu
  · exact hu
  · cases hu
end Go.Proofs.Ytklmckbpbloonaa
