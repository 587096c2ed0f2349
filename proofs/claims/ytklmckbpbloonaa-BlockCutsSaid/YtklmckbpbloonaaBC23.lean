/- Parts of the proof: OwnUU. -/
import Derived.Test.YtklmckbpbloonaaBC2
import Derived.Great.BuildSlice
namespace Go.Proofs.Ytklmckbpbloonaa
open Go.RowKit

/-- 'base', 'top': all the blocks lie from base on and ahead of top. -/
def OwnUU (w : World) (base top : Nat) (r : Option Nat) (A : Option Addr) (n c : Nat) (xss : List (List Int)) : Prop :=
  ∃ (hs : List (Option Addr × Nat × Nat)) (rs : List (Option Nat)), Own w 22 1 r A n c (hs.map hdV) ∧ (A = none → r = none) ∧ (∀ g, r = some g → base ≤ g ∧ g < top) ∧ hs.length = xss.length ∧ rs.length = xss.length ∧
    (∀ (j : Nat) (h : Option Addr × Nat × Nat) (q : Option Nat) (xs : List Int), hs[j]? = some h → rs[j]? = some q → xss[j]? = some xs → OwnU w q h.1 h.2.1 h.2.2 xs ∧ (∀ g, q = some g → base ≤ g ∧ g < top)) ∧
    (∀ (i j : Nat) (g : Nat), rs[i]? = some (some g) → rs[j]? = some (some g) → i = j)
section
variable {w w' : World} {base top top' : Nat} {r : Option Nat} {A : Option Addr} {n c : Nat} {xss : List (List Int)}
theorem OwnUU.nil_ (w : World) (base top : Nat) : OwnUU w base top none none 0 0 [] :=
  ⟨[], [], Own.nil_ w _ 1 none, fun _ => rfl, (fun g hg => by cases hg), rfl, rfl, (fun j h q xs e => by simp at e), (fun i j g e => by simp at e)⟩
theorem OwnUU.len (h : OwnUU w base top r A n c xss) : xss.length = n := by
  obtain ⟨hs, rs, h1, _, _, h2, _⟩ := h
  have := h1.2.2.1; rw [List.length_map] at this; omega
theorem OwnUU.more (h : OwnUU w base top r A n c xss) (ht : top ≤ top') : OwnUU w base top' r A n c xss := by
  obtain ⟨hs, rs, h1, h2, h3, h4, h5, h6, h7⟩ := h
  exact ⟨hs, rs, h1, h2, fun g hg => ⟨(h3 g hg).1, Nat.lt_of_lt_of_le (h3 g hg).2 ht⟩, h4, h5, fun j h q xs a b d => ⟨(h6 j h q xs a b d).1, fun g hg => ⟨((h6 j h q xs a b d).2 g hg).1, Nat.lt_of_lt_of_le ((h6 j h q xs a b d).2 g hg).2 ht⟩⟩, h7⟩
theorem OwnUU.below {B : Nat} (h : OwnUU w base top r A n c xss) (hb : Below B w w') (hB : top ≤ B) : OwnUU w' base top r A n c xss := by
  obtain ⟨hs, rs, h1, h2, h3, h4, h5, h6, h7⟩ := h
  exact ⟨hs, rs, h1.below hb (fun g hg => Nat.lt_of_lt_of_le (h3 g hg).2 hB), h2, h3, h4, h5, fun j h q xs a b d => ⟨(h6 j h q xs a b d).1.below hb (fun g hg => Nat.lt_of_lt_of_le ((h6 j h q xs a b d).2 g hg).2 hB), (h6 j h q xs a b d).2⟩, h7⟩
theorem OwnUU.alloc (h : OwnUU w base top r A n c xss) (ht : top ≤ w.heap.size) (o : Obj) : OwnUU (w.alloc o) base top r A n c xss := h.below ((Below.refl w.heap.size w).alloc (Nat.le_refl _) o) ht
theorem OwnUU.drewN (h : OwnUU w base top r A n c xss) (q : Nat) : OwnUU (w.drewN q) base top r A n c xss := h
theorem OwnUU.drew (h : OwnUU w base top r A n c xss) : OwnUU w.drew base top r A n c xss := h
/-- A write to a block that is no row of these two kinds. -/
theorem OwnUU.kept {row : Option Nat} (h : OwnUU w base top r A n c xss) (hg : w.grownBy w' row) (hne : ∀ g cur, row = some g → w.heap[g]? ≠ some (.cells cur 22 (0, 0)) ∧ w.heap[g]? ≠ some (.cells cur 31 (0, 0))) : OwnUU w' base top r A n c xss := by
  obtain ⟨hs, rs, h1, h2, h3, h4, h5, h6, h7⟩ := h
  refine ⟨hs, rs, h1.kept hg ?_, h2, h3, h4, h5, fun j h q xs a b d => ⟨(h6 j h q xs a b d).1.kept hg ?_, (h6 j h q xs a b d).2⟩, h7⟩
  · cases r with
    | none => exact .inl rfl
    | some g => right; intro e; obtain ⟨cur, hh⟩ := h1.block rfl; exact (hne g cur e.symm).1 hh
  · cases q with
    | none => exact .inl rfl
    | some g => right; intro e; obtain ⟨cur, hh⟩ := (h6 j h _ xs a b d).1.1.1.block rfl; exact (hne g cur e.symm).2 hh
theorem OwnUU.rd (h : OwnUU w base top r A n c xss) : RdUU w w.heap.size A n c xss := by
  obtain ⟨hs, rs, h1, h2, h3, h4, h5, h6, h7⟩ := h
  refine ⟨hs, h1.reads, h1.1, h1.2.1, fun hA => h1.cap0 (h2 hA), h4, fun j h xs a b => ?_⟩
  have hj : j < xss.length := by
    rcases Nat.lt_or_ge j xss.length with hj | hj
    · exact hj
    · rw [List.getElem?_eq_none hj] at b; cases b
  exact (h6 j h (rs[j]'(by omega)) xs a (List.getElem?_eq_getElem (by omega)) b).1.rd
end
theorem infoUU : (Try.prog.info? 22).map (fun i => (i.zero, i.size, i.bytes)) = some (some (.slice none 0 0), 1, 24) := by kernel_rfl
theorem Reads.oneBlk {w : World} {g : Nat} {t : TypeId} {v : Value} (h : Blk w g t #[v]) : Reads w w.heap.size 1 (some ⟨g, 0, none⟩) 1 [v] :=
  ⟨rfl, fun _ => ⟨_, rfl, h.lt, fun j u hu => by rw [Addr.add_lit, Nat.zero_add, h.cell, ← hu]; simp⟩⟩

theorem Own.at_one {w : World} {e : TypeId} {n c j : Nat} {r : Option Nat} {A : Option Addr} {xs : List Value} (h : Own w e 1 r A n c xs) {v : Value} (hj : xs[j]? = some v) :
    ∃ g, r = some g ∧ A = some ⟨g, 0, none⟩ ∧ g < w.heap.size ∧ w.cell? ⟨g, j, none⟩ = some v ∧ w.frozen? ⟨g, j, none⟩ = false := by
  obtain ⟨h1, h2, h3, h4⟩ := h
  have hjl : j < xs.length := by
    rcases Nat.lt_or_ge j xs.length with hj' | hj'
    · exact hj'
    · rw [List.getElem?_eq_none hj'] at hj; cases hj
  cases r with
  | none => simp only at h4; omega
  | some g =>
    obtain ⟨rfl, cur, h5, h6, h7⟩ := h4
    have hb : Blk w g e cur := h5
    refine ⟨g, rfl, rfl, hb.lt, ?_, hb.frozen j⟩
    rw [hb.cell, ← hj, ← h7, List.getElem?_take_of_lt (by omega)]
    simp
theorem Own.set_one {w : World} {e : TypeId} {n c j : Nat} {g : Nat} {A : Option Addr} {xs : List Value} (h : Own w e 1 (some g) A n c xs) (u : Value) :
    Own (w.setCell ⟨g, j, none⟩ u) e 1 (some g) A n c (xs.set j u) := by
  obtain ⟨h1, h2, h3, rfl, cur, h5, h6, h7⟩ := h
  have hb : Blk w g e cur := h5
  refine ⟨h1, h2, by simpa using h3, rfl, _, hb.set_ j u, by simpa using h6, ?_⟩
  rw [← h7, Array.toList_setIfInBounds, List.take_set]
/-- A row is written anew: 'out[j] = row'. 'w1': behind the row's own append. -/
theorem OwnUU.put {w w1 : World} {base top : Nat} {A : Option Addr} {n c : Nat} {xss : List (List Int)} {j : Nat} {hs : List (Option Addr × Nat × Nat)} {rs : List (Option Nat)} {g : Nat}
    (h1 : Own w 22 1 (some g) A n c (hs.map hdV)) (h2 : A = none → (some g : Option Nat) = none) (h3 : ∀ g', (some g : Option Nat) = some g' → base ≤ g' ∧ g' < top) (h4 : hs.length = xss.length) (h5 : rs.length = xss.length)
    (h6 : ∀ (j : Nat) (h : Option Addr × Nat × Nat) (q : Option Nat) (xs : List Int), hs[j]? = some h → rs[j]? = some q → xss[j]? = some xs → OwnU w q h.1 h.2.1 h.2.2 xs ∧ (∀ g, q = some g → base ≤ g ∧ g < top))
    (h7 : ∀ (i j : Nat) (g : Nat), rs[i]? = some (some g) → rs[j]? = some (some g) → i = j)
    {q q' : Option Nat} {ys : List Int} {A'' : Option Addr} {n'' c'' : Nat} (hq : rs[j]? = some q) (hg : w.grownBy w1 q) (hqq : q' = q ∨ ∀ g, q' = some g → w.heap.size ≤ g) (hy : OwnU w1 q' A'' n'' c'' ys) (ht : top ≤ w.heap.size) (hb : base ≤ w.heap.size) :
    OwnUU (w1.setCell ⟨g, j, none⟩ (.slice A'' n'' c'')) base w1.heap.size (some g) A n c (xss.set j ys) := by
  have hsz := hg.size
  have hgt : g < top := (h3 g rfl).2
  have hjl : j < rs.length := (List.getElem?_eq_some_iff.1 hq).1
  -- no row of numbers is the row of rows
  have hne : ∀ (W : World) (q0 : Option Nat) (A0 : Option Addr) (n0 c0 : Nat) (x0 : List Int), W.heap[g]? = w.heap[g]? → OwnU W q0 A0 n0 c0 x0 → ∀ g0, q0 = some g0 → g0 ≠ g := by
    rintro W q0 A0 n0 c0 x0 e0 ho g0 rfl rfl
    obtain ⟨c1, e1⟩ := ho.1.1.block rfl
    obtain ⟨c2, e2⟩ := h1.block rfl
    rw [e0, e2] at e1
    injection e1 with e1
    injection e1 with _ e1
    revert e1; decide
  obtain ⟨hj0, ej0⟩ : ∃ h0, hs[j]? = some h0 := ⟨hs[j]'(by omega), List.getElem?_eq_getElem _⟩
  obtain ⟨x0, ex0⟩ : ∃ x0, xss[j]? = some x0 := ⟨xss[j]'(by omega), List.getElem?_eq_getElem _⟩
  have hqo := h6 j hj0 q x0 ej0 hq ex0
  have hgq : some g ≠ q := fun e => hne w q _ _ _ _ rfl hqo.1 g e.symm rfl
  have hgb : w1.heap[g]? = w.heap[g]? := hg.block g (by have := h1.lt g rfl; omega) hgq
  have h1' : Own w1 22 1 (some g) A n c (hs.map hdV) := h1.kept hg (.inr hgq)
  have far : ∀ (q0 : Option Nat) (A0 : Option Addr) (n0 c0 : Nat) (x0 : List Int), OwnU w1 q0 A0 n0 c0 x0 → OwnU (w1.setCell ⟨g, j, none⟩ (.slice A'' n'' c'')) q0 A0 n0 c0 x0 := fun q0 A0 n0 c0 x0 ho =>
    ho.setCell_far (fun g0 e0 => hne w1 q0 A0 n0 c0 x0 hgb ho g0 e0) _
  have hqt : ∀ g0, q' = some g0 → base ≤ g0 ∧ g0 < w1.heap.size := fun g0 e0 => by
    refine ⟨?_, hy.lt g0 e0⟩
    rcases hqq with e | e
    · exact (hqo.2 g0 (e ▸ e0)).1
    · have := e g0 e0; omega
  refine ⟨hs.set j (A'', n'', c''), rs.set j q', ?_, h2, fun g' e => ⟨(h3 g' e).1, by have := (h3 g' e).2; omega⟩, by simpa using h4, by simpa using h5, fun i h' q0 xs a b d => ?_, fun i k g0 a b => ?_⟩
  · have := h1'.set_one (j := j) (.slice A'' n'' c'')
    rwa [show (hs.map hdV).set j (.slice A'' n'' c'') = (hs.set j (A'', n'', c'')).map hdV by rw [List.map_set]; rfl] at this
  · rw [List.getElem?_set] at a b d
    by_cases hij : j = i
    · subst hij
      rw [if_pos rfl, if_pos (by omega)] at a b d
      injection a with a; injection b with b; injection d with d
      subst a; subst b; subst d
      exact ⟨far _ _ _ _ _ hy, hqt⟩
    · rw [if_neg hij] at a b d
      obtain ⟨k1, k2⟩ := h6 i h' q0 xs a b d
      refine ⟨far _ _ _ _ _ (k1.kept hg ?_), fun g0 e0 => ⟨(k2 g0 e0).1, by have := (k2 g0 e0).2; omega⟩⟩
      cases q0 with
      | none => exact .inl rfl
      | some g0 => right; intro e; exact hij (h7 j i g0 (by rw [hq, ← e]) b)
  · rw [List.getElem?_set] at a b
    -- a row that is new is none of the others
    have old : ∀ (i : Nat), i ≠ j → rs[i]? = some (some g0) → q' ≠ some g0 := by
      intro i hij e1 e2
      have hil : i < rs.length := (List.getElem?_eq_some_iff.1 e1).1
      have k2 := (h6 i (hs[i]'(by omega)) _ (xss[i]'(by omega)) (List.getElem?_eq_getElem _) e1 (List.getElem?_eq_getElem _)).2 g0 rfl
      rcases hqq with e | e
      · exact hij (h7 i j g0 e1 (by rw [hq, ← e, e2]))
      · have := e g0 e2; omega
    by_cases hij : j = i <;> by_cases hkj : j = k
    · omega
    · rw [if_pos hij, if_pos (by omega)] at a
      rw [if_neg hkj] at b
      injection a with a
      exact absurd a (old k (Ne.symm hkj) b)
    · rw [if_neg hij] at a
      rw [if_pos hkj, if_pos (by omega)] at b
      injection b with b
      exact absurd b (old i (Ne.symm hij) a)
    · rw [if_neg hij] at a
      rw [if_neg hkj] at b
      exact h7 i k g0 a b
/-- 'append(out, row)' at [][]uint32. -/
theorem appUU1 {ops : Array Oper} {rest : List Oper} {o : Oper} {a : Act} {Q : Exit → Act → World → Prop} (hgd : o.guard = none) (s x : Operand)
    (ho : o.op = .call { callee := .builtin .append, args := #[s, x], argTypes := #[33, 33] }) (w : World)
    (base top : Nat) (r : Option Nat) (A : Option Addr) (n c : Nat) (xss : List (List Int)) (hs : a.eval s = .slice A n c) (hown : OwnUU w base top r A n c xss) (ht : top ≤ w.heap.size) (hbase : base ≤ top)
    (g : Nat) (h : Option Addr × Nat × Nat) (q : Option Nat) (ys : List Int) (hx : a.eval x = .slice (some ⟨g, 0, none⟩) 1 1) (hblk : Blk w g 22 #[hdV h]) (hq : OwnU w q h.1 h.2.1 h.2.2 ys) (hqn : ∀ g, q = some g → top ≤ g) (hb : n ≤ 1099511627776)
    (hK : ∀ r' A'' c'' w', OwnUU w' base w'.heap.size r' A'' (n + 1) c'' (xss ++ [ys]) → w.grownBy w' r → (r' = r ∨ ∀ g, r' = some g → w.heap.size ≤ g) → wpList Try.prog ops Q rest (a.put o.dst (.slice A'' (n + 1) c'')) w') : wpList Try.prog ops Q (o :: rest) a w := by
  obtain ⟨i0, hi, hz0, hz1, hz2⟩ := info_parts infoUU
  obtain ⟨hs', rs, h1, h2, h3, h4, h5, h6, h7⟩ := hown
  refine wpList_append_x w hgd s x _ ho 22 i0 _ 1 24 Try.underlying33 hi hz0 hz1 hz2 rfl (by decide) r A n c _ hs h1 h2 w.heap.size (some ⟨g, 0, none⟩) 1 1 [hdV h] hx (Reads.oneBlk hblk) (by intro u hu; simp at hu; subst hu; rfl) (by unfold maxLen; omega) (by omega) ?_
  intro r' A'' c'' w' k2 k3 k4
  have keep : ∀ (q' : Option Nat) (A' : Option Addr) (n' c' : Nat) (xs : List Int), OwnU w q' A' n' c' xs → OwnU w' q' A' n' c' xs := by
    intro q' A' n' c' xs ho'
    refine ho'.kept k3 ?_
    cases q' with
    | none => exact .inl rfl
    | some g' =>
      right; intro e
      obtain ⟨c1, e1⟩ := ho'.1.1.block rfl
      obtain ⟨c2, e2⟩ := h1.block e.symm
      rw [e1] at e2
      injection e2 with e2
      injection e2 with _ e2
      revert e2; decide
  have hsz := k3.size
  refine hK r' A'' c'' w' ⟨hs' ++ [h], rs ++ [q], by simpa using k2, none_of_own k2, fun g hg => ⟨?_, k2.lt g hg⟩, by simp [h4], by simp [h5], fun j h' q' xs a b d => ?_, fun i j g' a b => ?_⟩ k3 k4
  · rcases k4 with e | e
    · exact (h3 g (e ▸ hg)).1
    · have := e g hg; omega
  · have hj : j < xss.length + 1 := by
      rcases Nat.lt_or_ge j (xss.length + 1) with hj | hj
      · exact hj
      · rw [List.getElem?_eq_none (by simp; omega)] at d; cases d
    by_cases hjl : j < xss.length
    · rw [List.getElem?_append_left (by omega)] at a b d
      have := h6 j h' q' xs a b d
      exact ⟨keep _ _ _ _ _ this.1, fun g hg => ⟨(this.2 g hg).1, by have := (this.2 g hg).2; omega⟩⟩
    · obtain rfl : j = xss.length := by omega
      rw [List.getElem?_append_right (by omega)] at a b d
      simp only [h4, h5, Nat.sub_self, List.getElem?_cons_zero, Option.some.injEq] at a b d
      subst a; subst b; subst d
      exact ⟨keep _ _ _ _ _ hq, fun g hg => ⟨by have := hqn g hg; omega, by have := hq.lt g hg; omega⟩⟩
  · have aux : ∀ (i : Nat) (g' : Nat), (rs ++ [q])[i]? = some (some g') → (i < xss.length ∧ rs[i]? = some (some g') ∧ g' < top) ∨ (i = xss.length ∧ q = some g' ∧ top ≤ g') := by
      intro i g' a
      by_cases hil : i < xss.length
      · rw [List.getElem?_append_left (by omega)] at a
        have e1 : hs'[i]? = some (hs'[i]'(by omega)) := List.getElem?_eq_getElem (by omega)
        have e2 : xss[i]? = some (xss[i]'(by omega)) := List.getElem?_eq_getElem (by omega)
        exact .inl ⟨hil, a, ((h6 i _ _ _ e1 a e2).2 g' rfl).2⟩
      · rw [List.getElem?_append_right (by omega)] at a
        have hi0 : i - rs.length = 0 := by
          rcases Nat.eq_zero_or_pos (i - rs.length) with h0 | h0
          · exact h0
          · rw [List.getElem?_eq_none (by simp; omega)] at a; cases a
        rw [hi0] at a
        simp at a
        exact .inr ⟨by omega, a, hqn g' a⟩
    rcases aux i g' a with ⟨a1, a2, a3⟩ | ⟨a1, a2, a3⟩ <;> rcases aux j g' b with ⟨b1, b2, b3⟩ | ⟨b1, b2, b3⟩
    · exact h7 i j g' a2 b2
    · omega
    · omega
    · omega
/-- '[][]uint32{nil}', ahead of an append. -/
theorem buildNil {ops : Array Oper} {rest : List Oper} {o : Oper} {a : Act} {w : World} {Q : Exit → Act → World → Prop} (hgd : o.guard = none) (ho : o.op = .buildSlice 33 1 #[(0, .const (.slice none 0 0))])
    (h : wpList Try.prog ops Q rest (a.put o.dst (.slice (some ⟨w.heap.size, 0, none⟩) 1 1)) (w.alloc (.cells #[.slice none 0 0] 22))) : wpList Try.prog ops Q (o :: rest) a w := by
  obtain ⟨i0, hi, hz0, hz1, hz2⟩ := info_parts infoUU
  refine wpList_buildSlice hgd 33 22 1 _ ho #[.slice none 0 0] i0 (.slice none 0 0) Try.underlying33 hi hz0 (by rw [hz1]; decide) (by rw [hz1]; decide) ?_ h
  rw [hz1]
  have e1 : (#[(0, Operand.const (Value.slice none 0 0))].map fun (i, x) => (i, a.eval x)).toList = [(0, Value.slice none 0 0)] := by simp [Act.eval]
  rw [e1]
  simp only [Nat.mul_one, show Array.range 1 = #[0] from rfl]
  simp [Instr.fill, Value.cells]
end Go.Proofs.Ytklmckbpbloonaa
