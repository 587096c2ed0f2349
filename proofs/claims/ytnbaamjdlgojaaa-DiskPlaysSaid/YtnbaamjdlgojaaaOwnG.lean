/- Rows of the call's own: a slice value that is nil, or without room, or stands at the head of a row that the call made; append onto it. -/
import Derived.Test.YtnbaamjdlgojaaaProg
import Derived.Test.YtnbaamjdlgojaaaBase
import Derived.Maps.AppendAt
import Derived.Deep.AppendLies
namespace Go.Proofs.Ytnbaamjdlgojaaa
open Go.RowKit

/-- 'r': the row that an append may write to: none: there is no room at all. -/
def Own (w : World) (e : TypeId) (size : Nat) (r : Option Nat) (A : Option Addr) (n c : Nat) (xs : List Value) : Prop :=
  n ≤ c ∧ c ≤ 9223372036854775807 ∧ xs.length = n * size ∧
  match r with
  | none => c = 0
  | some g => A = some ⟨g, 0, none⟩ ∧ ∃ cur : Array Value, w.heap[g]? = some (.cells cur e (0, 0)) ∧ cur.size = c * size ∧ cur.toList.take (n * size) = xs

section
variable {w w' : World} {e : TypeId} {size n c : Nat} {r : Option Nat} {A : Option Addr} {xs : List Value}
theorem Own.cap0 (h : Own w e size r A n c xs) (hr : r = none) : c = 0 := by subst hr; exact h.2.2.2
theorem Own.nil_ (w : World) (e : TypeId) (size : Nat) (A : Option Addr) : Own w e size none A 0 0 [] := ⟨Nat.le_refl _, by omega, by simp, rfl⟩
theorem Own.lt (h : Own w e size r A n c xs) : ∀ g, r = some g → g < w.heap.size := by
  rintro g rfl
  obtain ⟨_, _, _, _, cur, hh, _⟩ := h
  exact Blk.lt (cs := cur) (t := e) hh
theorem Own.kept {row : Option Nat} (h : Own w e size r A n c xs) (hg : w.grownBy w' row) (hne : r = none ∨ r ≠ row) : Own w' e size r A n c xs := by
  have hl := h.lt
  cases r with
  | none => exact h
  | some g =>
    obtain ⟨h1, h2, h3, h4, cur, h5, h6⟩ := h
    exact ⟨h1, h2, h3, h4, cur, (hg.block g (hl g rfl) (by rcases hne with h | h; cases h; exact h)).trans h5, h6⟩
theorem Own.alloc (h : Own w e size r A n c xs) (o : Obj) : Own (w.alloc o) e size r A n c xs := h.kept (World.grownBy_alloc w o none) (by cases r <;> simp)
theorem Own.drew (h : Own w e size r A n c xs) : Own w.drew e size r A n c xs := h
theorem Own.drewN (h : Own w e size r A n c xs) (q : Nat) : Own (w.drewN q) e size r A n c xs := h
theorem Own.below {B : Nat} (h : Own w e size r A n c xs) (hb : Below B w w') (hB : ∀ g, r = some g → g < B) : Own w' e size r A n c xs := by
  cases r with
  | none => exact h
  | some g =>
    obtain ⟨h1, h2, h3, h4, cur, h5, h6⟩ := h
    exact ⟨h1, h2, h3, h4, cur, (hb.block g (hB g rfl)).trans h5, h6⟩
theorem Own.setCell_far (h : Own w e size r A n c xs) {p : Addr} (hp : ∀ g, r = some g → g ≠ p.block) (u : Value) : Own (w.setCell p u) e size r A n c xs := by
  cases r with
  | none => exact h
  | some g =>
    obtain ⟨h1, h2, h3, h4, cur, h5, h6⟩ := h
    exact ⟨h1, h2, h3, h4, cur, (Below.heap_setCell w p u g (hp g rfl)).trans h5, h6⟩
theorem Own.reads (h : Own w e size r A n c xs) : Reads w w.heap.size size A n xs := by
  obtain ⟨h1, h2, h3, h4⟩ := h
  refine ⟨h3, fun hn => ?_⟩
  cases r with
  | none => simp only at h4; omega
  | some g =>
    obtain ⟨rfl, cur, h5, h6, h7⟩ := h4
    refine ⟨_, rfl, Blk.lt (cs := cur) (t := e) h5, fun j u hu => ?_⟩
    have hj : j < n * size := by
      rcases Nat.lt_or_ge j (n * size) with hj | hj
      · exact hj
      · rw [List.getElem?_eq_none (by omega)] at hu; cases hu
    rw [Addr.add_lit, cell_of_row w g _ cur e (0, 0) h5, Nat.zero_add, ← hu, ← h7, List.getElem?_take_of_lt hj]
    simp
theorem Own.of_row {base : Nat} {v : Value} (h : w.ownsRow base e size v n xs) (hn : 0 < n ∨ v.ownBlock ≠ none) :
    ∃ g c, v = .slice (some ⟨g, 0, none⟩) n c ∧ base ≤ g ∧ Own w e size (some g) (some ⟨g, 0, none⟩) n c xs := by
  rcases h.2 with ⟨rfl, rfl⟩ | ⟨g, cap, cur, rfl, hg, hh, h1, h2, h3, h4⟩
  · rcases hn with hn | hn
    · omega
    · exact absurd rfl hn
  · exact ⟨g, cap, rfl, hg, h1, by simpa [maxLen] using h2, h.1, rfl, cur, hh, h3, h4⟩
theorem Own.to_row {base g : Nat} (h : Own w e size (some g) A n c xs) (hb : base ≤ g) : w.ownsRow base e size (.slice A n c) n xs := by
  obtain ⟨h1, h2, h3, rfl, cur, h5, h6, h7⟩ := h
  exact ⟨h3, .inr ⟨g, c, cur, rfl, hb, h5, h1, by simpa [maxLen] using h2, h6, h7⟩⟩
/-- A shorter piece of the row, from its head on. -/
theorem Own.cutTo {m : Nat} (h : Own w e size r A n c xs) (hm : m ≤ n) : Own w e size r A m c (xs.take (m * size)) := by
  obtain ⟨h1, h2, h3, h4⟩ := h
  have hle : m * size ≤ n * size := Nat.mul_le_mul_right _ hm
  refine ⟨by omega, h2, by rw [List.length_take]; omega, ?_⟩
  cases r with
  | none => exact h4
  | some g =>
    obtain ⟨rfl, cur, h5, h6, h7⟩ := h4
    exact ⟨rfl, cur, h5, h6, by rw [← h7, List.take_take, Nat.min_eq_left hle]⟩
end

section
variable {P : Program} (w : World)
theorem run_append_x (t ty e : TypeId) (i : TypeInfo) (z : Value) (size bytes : Nat) (ht : P.underlying t = some (.slice e)) (hi : P.info? e = some i) (hz : i.zero = some z)
    (hsize : i.size = size) (hby : i.bytes = bytes) (hzs : z.cells.size = size) (hsz : 0 < size)
    (r : Option Nat) (A : Option Addr) (n c : Nat) (xs : List Value) (hown : Own w e size r A n c xs) (hA : A = none → r = none)
    (B : Nat) (A' : Option Addr) (m c' : Nat) (news : List Value) (hr : Reads w B size A' m news) (h1 : ∀ u ∈ news, u.oneCell' = true)
    (h63 : n + m ≤ maxLen) (hbytes : (n + m) * bytes ≤ 140737488355328) :
    ∃ r' A'' c'' w', (Builtin.append_ #[t, t] ty #[.slice A n c, .slice A' m c']).run P w = .ok (.slice A'' (n + m) c'') w' ∧ Own w' e size r' A'' (n + m) c'' (xs ++ news) ∧ w.grownBy w' r ∧
      (r' = r ∨ ∀ g, r' = some g → w.heap.size ≤ g) := by
  rcases Nat.eq_zero_or_pos m with h0 | hpos
  · -- nothing is appended
    subst h0
    have hn : news = [] := List.eq_nil_of_length_eq_zero (by simpa using hr.1)
    subst hn
    refine ⟨r, A, c, w, ?_, by simpa using hown, World.grownBy.refl w _, .inl rfl⟩
    cases A with
    | none =>
      have hr0 := hA rfl
      subst hr0
      obtain ⟨a1, _, _, a2⟩ := hown
      simp only at a2
      subst a2
      have hn0 : n = 0 := by omega
      subst hn0
      cases A' <;> simp [Builtin.append_, run_underlying ht, sizeOf, typeInfo, hi, Builtin.lenOf, Builtin.firstCells, loadCells, loadCellsFrom]
    | some b =>
      have hnc := hown.1
      cases A' <;> simp [Builtin.append_, run_underlying ht, sizeOf, typeInfo, hi, Builtin.lenOf, Builtin.firstCells, hnc, storeCells, loadCells, loadCellsFrom]
  · obtain ⟨ad, rfl, _, hc⟩ := hr.2 hpos
    cases r with
    | some g =>
      have hlt := hown.lt g rfl
      obtain ⟨v', w', hrun, h2, h3, _, h5⟩ := run_append_own_at (P := P) w 0 t ty e i z size bytes ht hi hz hsize hby hzs hsz _ n xs (hown.to_row (Nat.zero_le _)) ad m c' news hr.1 hc h1 h63 hbytes (Nat.zero_le _)
      obtain ⟨g', c'', rfl, _, ho⟩ := Own.of_row h2 (.inl (by omega))
      obtain ⟨_, _, _, rfl, _⟩ := hown
      refine ⟨some g', _, c'', w', hrun, ho, h3, ?_⟩
      rcases h5 with h5 | h5
      · left; simpa [Value.ownBlock] using h5
      · right; rintro g2 ⟨⟩; have : g' = w.heap.size := by simpa [Value.ownBlock] using h5
        omega
    | none =>
      obtain ⟨a1, _, a3, a2⟩ := hown
      simp only at a2
      subst a2
      have hn0 : n = 0 := by omega
      subst hn0
      have hxs : xs = [] := List.eq_nil_of_length_eq_zero (by simpa using a3)
      subst hxs
      have fin : ∀ v' w', (Builtin.append_ #[t, t] ty #[.slice A 0 0, .slice (some ad) m c']).run P w = .ok v' w' → w'.ownsRow w.heap.size e size v' (0 + m) ([] ++ news) → w.grownBy w' none →
          ∃ r' A'' c'' w', (Builtin.append_ #[t, t] ty #[.slice A 0 0, .slice (some ad) m c']).run P w = .ok (.slice A'' (0 + m) c'') w' ∧ Own w' e size r' A'' (0 + m) c'' ([] ++ news) ∧ w.grownBy w' none ∧ (r' = none ∨ ∀ g, r' = some g → w.heap.size ≤ g) := by
        intro v' w' hrun h2 h3
        obtain ⟨g', c'', rfl, hg', ho⟩ := Own.of_row h2 (.inl (by omega))
        exact ⟨some g', _, c'', w', hrun, ho, h3, .inr (by rintro g2 ⟨⟩; exact hg')⟩
      cases A with
      | none =>
        obtain ⟨v', w', hrun, h2, h3, _, h5⟩ := run_append_own_at (P := P) w w.heap.size t ty e i z size bytes ht hi hz hsize hby hzs hsz (.slice none 0 0) 0 [] (World.ownsRow_nil w _ e size) ad m c' news hr.1 hc h1 h63 hbytes (Nat.le_refl _)
        exact fin v' w' hrun h2 h3
      | some b =>
        obtain ⟨v', w', hrun, h2, h3⟩ := run_append_arg_grows (P := P) w t ty e i z size bytes ht hi hz hsize hby hzs hsz b 0 0 [] (by simp) (by simp) ad m c' news hr.1 hc (by omega) h63 hbytes
        exact fin v' w' hrun h2 h3

theorem wp_append_x {o : Oper} {a : Act} {K : Act → World → Prop} {Q : Exit → Act → World → Prop} (s x : Operand) (t : TypeId)
    (ho : o.op = .call { callee := .builtin .append, args := #[s, x], argTypes := #[t, t] })
    (e : TypeId) (i : TypeInfo) (z : Value) (size bytes : Nat) (ht : P.underlying t = some (.slice e)) (hi : P.info? e = some i) (hz : i.zero = some z)
    (hsize : i.size = size) (hby : i.bytes = bytes) (hzs : z.cells.size = size) (hsz : 0 < size)
    (r : Option Nat) (A : Option Addr) (n c : Nat) (xs : List Value) (hs : a.eval s = .slice A n c) (hown : Own w e size r A n c xs) (hA : A = none → r = none)
    (B : Nat) (A' : Option Addr) (m c' : Nat) (news : List Value) (hx : a.eval x = .slice A' m c') (hr : Reads w B size A' m news) (h1 : ∀ u ∈ news, u.oneCell' = true)
    (h63 : n + m ≤ maxLen) (hbytes : (n + m) * bytes ≤ 140737488355328)
    (h : ∀ r' A'' c'' w', Own w' e size r' A'' (n + m) c'' (xs ++ news) → w.grownBy w' r → (r' = r ∨ ∀ g, r' = some g → w.heap.size ≤ g) → K (a.put o.dst (.slice A'' (n + m) c'')) w') : o.wp P a w K Q := by
  obtain ⟨r', A'', c'', w', hrun, h2, h3, h4⟩ := run_append_x (P := P) w t o.type e i z size bytes ht hi hz hsize hby hzs hsz r A n c xs hown hA B A' m c' news hr h1 h63 hbytes
  unfold Oper.wp execOp
  simp only [ho, resolve, invoke, builtin, Sem.run_bind, Sem.run_pure, Result.andThen_ok, List.map_toArray, List.map_cons, List.map_nil, hs, hx, hrun]
  exact h r' A'' c'' w' h2 h3 h4

theorem wpList_append_x {ops : Array Oper} {rest : List Oper} {o : Oper} {a : Act} {Q : Exit → Act → World → Prop} (hgd : o.guard = none) (s x : Operand) (t : TypeId)
    (ho : o.op = .call { callee := .builtin .append, args := #[s, x], argTypes := #[t, t] })
    (e : TypeId) (i : TypeInfo) (z : Value) (size bytes : Nat) (ht : P.underlying t = some (.slice e)) (hi : P.info? e = some i) (hz : i.zero = some z)
    (hsize : i.size = size) (hby : i.bytes = bytes) (hzs : z.cells.size = size) (hsz : 0 < size)
    (r : Option Nat) (A : Option Addr) (n c : Nat) (xs : List Value) (hs : a.eval s = .slice A n c) (hown : Own w e size r A n c xs) (hA : A = none → r = none)
    (B : Nat) (A' : Option Addr) (m c' : Nat) (news : List Value) (hx : a.eval x = .slice A' m c') (hr : Reads w B size A' m news) (h1 : ∀ u ∈ news, u.oneCell' = true)
    (h63 : n + m ≤ maxLen) (hbytes : (n + m) * bytes ≤ 140737488355328)
    (h : ∀ r' A'' c'' w', Own w' e size r' A'' (n + m) c'' (xs ++ news) → w.grownBy w' r → (r' = r ∨ ∀ g, r' = some g → w.heap.size ≤ g) → wpList P ops Q rest (a.put o.dst (.slice A'' (n + m) c'')) w') : wpList P ops Q (o :: rest) a w :=
  wpList_plain hgd fun _ hK => wp_append_x w s x t ho e i z size bytes ht hi hz hsize hby hzs hsz r A n c xs hs hown hA B A' m c' news hx hr h1 h63 hbytes fun r' A'' c'' w' h2 h3 h4 => hK _ _ (h r' A'' c'' w' h2 h3 h4)

theorem step_append_x {ops : Array Oper} {o : Oper} {a : Act} {K : Act → World → Prop} {Q : Exit → Act → World → Prop} {E : Prop} (hgd : o.guard = none) (s x : Operand) (t : TypeId)
    (ho : o.op = .call { callee := .builtin .append, args := #[s, x], argTypes := #[t, t] })
    (e : TypeId) (i : TypeInfo) (z : Value) (size bytes : Nat) (ht : P.underlying t = some (.slice e)) (hi : P.info? e = some i) (hz : i.zero = some z)
    (hsize : i.size = size) (hby : i.bytes = bytes) (hzs : z.cells.size = size) (hsz : 0 < size)
    (r : Option Nat) (A : Option Addr) (n c : Nat) (xs : List Value) (hs : a.eval s = .slice A n c) (hown : Own w e size r A n c xs) (hA : A = none → r = none)
    (B : Nat) (A' : Option Addr) (m c' : Nat) (news : List Value) (hx : a.eval x = .slice A' m c') (hr : Reads w B size A' m news) (h1 : ∀ u ∈ news, u.oneCell' = true)
    (h63 : n + m ≤ maxLen) (hbytes : (n + m) * bytes ≤ 140737488355328)
    (h : ∀ r' A'' c'' w', Own w' e size r' A'' (n + m) c'' (xs ++ news) → w.grownBy w' r → (r' = r ∨ ∀ g, r' = some g → w.heap.size ≤ g) → K (a.put o.dst (.slice A'' (n + m) c'')) w') :
    if Region.wanted o (yielded ops a.tmps) = true then Oper.wp P o a w K Q else E := by
  have hw : Region.wanted o (yielded ops a.tmps) = true := by simp [Region.wanted, hgd]
  rw [if_pos hw]
  exact wp_append_x w s x t ho e i z size bytes ht hi hz hsize hby hzs hsz r A n c xs hs hown hA B A' m c' news hx hr h1 h63 hbytes h
end

theorem Own.block {w : World} {e : TypeId} {size n c : Nat} {r : Option Nat} {A : Option Addr} {xs : List Value} (h : Own w e size r A n c xs) {g : Nat} (hr : r = some g) : ∃ cur, w.heap[g]? = some (.cells cur e (0, 0)) := by
  subst hr
  obtain ⟨_, _, _, _, cur, h5, _⟩ := h
  exact ⟨cur, h5⟩
end Go.Proofs.Ytnbaamjdlgojaaa
