/- Rows of the call's own of ints. -/
import Derived.Test.YtnbaamjdlgojaaaOwnG
namespace Go.Proofs.Ytnbaamjdlgojaaa
open Go.RowKit

def I64 (xs : List Int) : List Value := xs.map (Value.int .i64)
theorem I64_append (xs ys : List Int) : I64 (xs ++ ys) = I64 xs ++ I64 ys := by simp [I64]
theorem I64_len (xs : List Int) : (I64 xs).length = xs.length := by simp [I64]
theorem one_I64 (xs : List Int) : ∀ u ∈ I64 xs, u.oneCell' = true := by
  intro u hu
  obtain ⟨x, _, rfl⟩ := List.mem_map.1 hu
  rfl
theorem infoI : (Try.prog.info? 3).map (fun i => (i.zero, i.size, i.bytes)) = some (some (.int .i64 0), 1, 8) := by kernel_rfl
theorem info_partsI {P : Program} {t : TypeId} {z : Value} {s b : Nat} (h : (P.info? t).map (fun i => (i.zero, i.size, i.bytes)) = some (some z, s, b)) : ∃ i, P.info? t = some i ∧ i.zero = some z ∧ i.size = s ∧ i.bytes = b := by
  cases hi : P.info? t with
  | none => rw [hi] at h; simp at h
  | some i => rw [hi] at h; simp at h; exact ⟨i, rfl, h.1, h.2.1, h.2.2⟩
def OwnI (w : World) (r : Option Nat) (A : Option Addr) (n c : Nat) (xs : List Int) : Prop := Own w 3 1 r A n c (I64 xs) ∧ (A = none → r = none)
section
variable {w w' : World} {r : Option Nat} {A : Option Addr} {n c : Nat} {xs : List Int}
theorem OwnI.nil_ (w : World) (A : Option Addr) : OwnI w none A 0 0 [] := ⟨Own.nil_ w _ 1 A, fun _ => rfl⟩
theorem OwnI.len (h : OwnI w r A n c xs) : xs.length = n := by have := h.1.2.2.1; simpa [I64] using this
theorem OwnI.reads (h : OwnI w r A n c xs) : Reads w w.heap.size 1 A n (I64 xs) := h.1.reads
theorem OwnI.lt (h : OwnI w r A n c xs) : ∀ g, r = some g → g < w.heap.size := h.1.lt
theorem OwnI.below {B : Nat} (h : OwnI w r A n c xs) (hb : Below B w w') (hB : ∀ g, r = some g → g < B) : OwnI w' r A n c xs := ⟨h.1.below hb hB, h.2⟩
theorem OwnI.on (h : OwnI w r A n c xs) (hb : Below w.heap.size w w') : OwnI w' r A n c xs := h.below hb h.lt
theorem OwnI.kept {row : Option Nat} (h : OwnI w r A n c xs) (hg : w.grownBy w' row) (hne : r = none ∨ r ≠ row) : OwnI w' r A n c xs := ⟨h.1.kept hg hne, h.2⟩
theorem none_of_ownG {w : World} {e : TypeId} {size n c : Nat} {r : Option Nat} {A : Option Addr} {xs : List Value} (h : Own w e size r A n c xs) : A = none → r = none := by
  intro hA
  cases r with
  | none => rfl
  | some g => obtain ⟨_, _, _, h4, _⟩ := h; rw [h4] at hA; cases hA
theorem I64_one {w : World} {g : Nat} {x : Int} (h : Blk w g 3 #[.int .i64 x]) : Reads w w.heap.size 1 (some ⟨g, 0, none⟩) 1 (I64 [x]) :=
  ⟨rfl, fun _ => ⟨_, rfl, h.lt, fun j u hu => by rw [Addr.add_lit, Nat.zero_add, h.cell, ← hu]; simp [I64]⟩⟩
/-- 'append(out, y)' at []int. -/
theorem appI1 {ops : Array Oper} {rest : List Oper} {o : Oper} {a : Act} {Q : Exit → Act → World → Prop} (hgd : o.guard = none) (s x : Operand)
    (ho : o.op = .call { callee := .builtin .append, args := #[s, x], argTypes := #[37, 37] }) (w : World)
    (r : Option Nat) (A : Option Addr) (n c : Nat) (xs : List Int) (hs : a.eval s = .slice A n c) (hown : OwnI w r A n c xs)
    (g : Nat) (y : Int) (hx : a.eval x = .slice (some ⟨g, 0, none⟩) 1 1) (hblk : Blk w g 3 #[.int .i64 y]) (hb : n ≤ 8796093022208)
    (h : ∀ r' A'' c'' w', OwnI w' r' A'' (n + 1) c'' (xs ++ [y]) → w.grownBy w' r → (r' = r ∨ ∀ g, r' = some g → w.heap.size ≤ g) → wpList Try.prog ops Q rest (a.put o.dst (.slice A'' (n + 1) c'')) w') : wpList Try.prog ops Q (o :: rest) a w := by
  obtain ⟨i0, hi, hz0, hz1, hz2⟩ := info_partsI infoI
  refine wpList_append_x w hgd s x _ ho 3 i0 _ 1 8 Try.underlying37 hi hz0 hz1 hz2 rfl (by decide) r A n c (I64 xs) hs hown.1 hown.2 w.heap.size _ 1 1 (I64 [y]) hx (I64_one hblk) (one_I64 _) (by unfold maxLen; omega) (by omega) ?_
  intro r' A'' c'' w' h2 h3 h4
  rw [← I64_append] at h2
  exact h r' A'' c'' w' ⟨h2, none_of_ownG h2⟩ h3 h4
end
end Go.Proofs.Ytnbaamjdlgojaaa
