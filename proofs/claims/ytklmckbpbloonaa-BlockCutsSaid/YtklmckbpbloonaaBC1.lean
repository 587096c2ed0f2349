/- Parts of the proof: Base, OwnG, GraphA, Maps, RefA. -/
import Derived.WalkKit
import Derived.WalkSpells
import Derived.WalkLawsBesides
import Derived.Lib.Hide
import Derived.Deep.QuietTactic
import Derived.BigQuiet
import Derived.Laws.OwnMore
import Derived.Deep.AppendLies
import Derived.Deep.Draws
import Derived.Deep.DeepFit
import Derived.Deep.RegionWith
import Derived.Deep.RegionHeld3
import Derived.Deep.RegionLaw
import Derived.Deep.LoopGhost
import Derived.Laws.Rows
import Derived.Handy
import Derived.Test.YtklmckbpbloonaaProg
import Derived.Maps.AppendAt
import Derived.Maps.RangeRun
import Derived.Maps.OwnOps
import Derived.Maps.RangeWalk
namespace Go.Proofs.Ytklmckbpbloonaa
open Go.RowKit

theorem block_of_add (a : Addr) (n : Nat) : (a.add n).block = a.block := by unfold Addr.add; split <;> rfl
theorem add_of_add (a : Addr) (i j : Nat) : (a.add i).add j = a.add (i + j) := by
  unfold Addr.add
  by_cases hi : i = 0 <;> by_cases hj : j = 0 <;> simp [hi, hj, Nat.add_assoc]

theorem add_next (a : Addr) (i j : Nat) : (⟨(a.add i).block, (a.add i).off + (j + 1), none⟩ : Addr) = a.add (i + (j + 1)) := by
  unfold Addr.add
  by_cases hi : i = 0 <;> simp [hi, Nat.add_assoc]

/-- The slice value with address A and n elements of 'size' cells holds the cells xs, below block B. -/
def Reads (w : World) (B size : Nat) (A : Option Addr) (n : Nat) (xs : List Value) : Prop :=
  xs.length = n * size ∧ (0 < n → ∃ ad, A = some ad ∧ ad.block < B ∧ ∀ j u, xs[j]? = some u → w.cell? (ad.add j) = some u)

section
variable {w w' : World} {B B' size n : Nat} {A : Option Addr} {xs : List Value}
theorem Reads.none_ : Reads w B size A 0 [] := ⟨by simp, fun h => absurd h (by omega)⟩
theorem Reads.keep (h : Reads w B size A n xs) (hk : ∀ p : Addr, p.block < B → w'.cell? p = w.cell? p) : Reads w' B size A n xs :=
  ⟨h.1, fun hn => by
    obtain ⟨ad, e, hb, hc⟩ := h.2 hn
    exact ⟨ad, e, hb, fun j u hu => (hk _ (by rw [block_of_add]; exact hb)).trans (hc j u hu)⟩⟩
theorem Reads.more (h : Reads w B size A n xs) (hB : B ≤ B') : Reads w B' size A n xs :=
  ⟨h.1, fun hn => by
    obtain ⟨ad, e, hb, hc⟩ := h.2 hn
    exact ⟨ad, e, by omega, hc⟩⟩
theorem Reads.below (h : Reads w B size A n xs) (hb : Below B w w') : Reads w' B size A n xs := h.keep fun _ hp => hb.cell hp
end

/-- Block g is just the cells cs of element type t, none frozen. -/
def Blk (w : World) (g : Nat) (t : TypeId) (cs : Array Value) : Prop := w.heap[g]? = some (.cells cs t (0, 0))
section
variable {w w' : World} {g : Nat} {t : TypeId} {cs : Array Value} {a b c : Value}
theorem Blk.lt (h : Blk w g t cs) : g < w.heap.size := by
  rcases Nat.lt_or_ge g w.heap.size with hlt | hge
  · exact hlt
  · unfold Blk at h; rw [Array.getElem?_eq_none hge] at h; cases h
theorem Blk.cell (h : Blk w g t cs) (i : Nat) : w.cell? ⟨g, i, none⟩ = cs[i]? := cell_of_row w g i cs t (0, 0) h
theorem Blk.frozen (h : Blk w g t cs) (i : Nat) : w.frozen? ⟨g, i, none⟩ = false := by
  unfold Blk at h
  simp [World.frozen?, h]
theorem Blk.new (w : World) (t : TypeId) (cs : Array Value) : Blk (w.alloc (.cells cs t)) w.heap.size t cs := heap_alloc_new w _
theorem Blk.drew (h : Blk w g t cs) : Blk w.drew g t cs := h
theorem Blk.drewN (h : Blk w g t cs) (n : Nat) : Blk (w.drewN n) g t cs := h
theorem Blk.alloc (h : Blk w g t cs) (o : Obj) : Blk (w.alloc o) g t cs := (Below.heap_alloc w o g h.lt).trans h
theorem Blk.set_ (h : Blk w g t cs) (i : Nat) (u : Value) : Blk (w.setCell ⟨g, i, none⟩ u) g t (cs.setIfInBounds i u) := by
  unfold Blk at h ⊢
  simp [World.setCell, Array.getElem?_modify, h]
theorem Blk.far (h : Blk w g t cs) {p : Addr} (hp : g ≠ p.block) (u : Value) : Blk (w.setCell p u) g t cs := (Below.heap_setCell w p u g hp).trans h
theorem Blk.below {B : Nat} (h : Blk w g t cs) (hb : Below B w w') (hg : g < B) : Blk w' g t cs := (hb.block g hg).trans h
theorem Blk.grown {row : Option Nat} (h : Blk w g t cs) (hb : w.grownBy w' row) (hg : some g ≠ row) : Blk w' g t cs := (hb.block g h.lt hg).trans h
theorem Blk.ne_ {g' : Nat} {t' : TypeId} {cs' : Array Value} (h : Blk w g t cs) (h' : Blk w g' t' cs') (hne : t ≠ t') : g ≠ g' := by
  rintro rfl
  unfold Blk at h h'
  rw [h] at h'
  injection h' with h'
  injection h' with _ ht
  exact hne ht
theorem own_blk_ne {base : Nat} {e : TypeId} {size n : Nat} {v : Value} {xs : List Value} (h : w.ownsRow base e size v n xs) (hg : Blk w g t cs) (hne : e ≠ t) : v.ownBlock ≠ some g := by
  rcases h.2 with ⟨rfl, _⟩ | ⟨g', cap, cur, rfl, _, hh, _⟩
  · simp [Value.ownBlock]
  · intro he
    have : g' = g := by simpa [Value.ownBlock] using he
    subst this
    exact Blk.ne_ (t := e) hh hg hne rfl
theorem Blk.c1 (h : Blk w g t #[a]) : w.cell? ⟨g, 0, none⟩ = some a := h.cell 0
theorem Blk.c2 (h : Blk w g t #[a, b]) : w.cell? ⟨g, 0, none⟩ = some a ∧ w.cell? ⟨g, 1, none⟩ = some b := ⟨h.cell 0, h.cell 1⟩
theorem Blk.c3 (h : Blk w g t #[a, b, c]) : w.cell? ⟨g, 0, none⟩ = some a ∧ w.cell? ⟨g, 1, none⟩ = some b ∧ w.cell? ⟨g, 2, none⟩ = some c := ⟨h.cell 0, h.cell 1, h.cell 2⟩
end
theorem Reads.of_own {w : World} {base size n c : Nat} {e : TypeId} {A : Option Addr} {xs : List Value} (h : w.ownsRow base e size (.slice A n c) n xs) : Reads w w.heap.size size A n xs := by
  refine ⟨h.1, fun hn => ?_⟩
  obtain ⟨g, cap, hv, _, hlt⟩ := h.form hn
  have hA : A = some ⟨g, 0, none⟩ := by injection hv
  subst hA
  exact ⟨_, rfl, hlt, h.cells (g := g) rfl⟩

/-- Lists of numbers of 32 bits, and their cells. -/
def U (xs : List Int) : List Value := xs.map (Value.int .u32)
theorem U_len (xs : List Int) : (U xs).length = xs.length := by simp [U]
theorem U_at {xs : List Int} {k : Nat} {x : Int} (h : xs[k]? = some x) : (U xs)[k]? = some (.int .u32 x) := by simp [U, h]

/-- An edge: its number, its two ends. -/
abbrev Edg : Type := Int × Int × Int
def Ed (es : List Edg) : List Value := es.flatMap fun e => [.int .u32 e.1, .int .u32 e.2.1, .int .u32 e.2.2]
theorem Ed_len (es : List Edg) : (Ed es).length = es.length * 3 := by
  induction es with
  | nil => rfl
  | cons e es ih => simp [Ed] at ih ⊢; omega
theorem Ed_at {es : List Edg} {k : Nat} {e : Edg} (h : es[k]? = some e) :
    (Ed es)[k * 3]? = some (.int .u32 e.1) ∧ (Ed es)[k * 3 + 1]? = some (.int .u32 e.2.1) ∧ (Ed es)[k * 3 + 2]? = some (.int .u32 e.2.2) := by
  induction es generalizing k with
  | nil => simp at h
  | cons x es ih =>
    cases k with
    | zero => simp at h; subst h; simp [Ed]
    | succ k =>
      have := ih (k := k) (by simpa using h)
      have e1 : (k + 1) * 3 = k * 3 + 3 := by omega
      simp only [e1, Ed, List.flatMap_cons] at this ⊢
      refine ⟨?_, ?_, ?_⟩
      · rw [List.getElem?_append_right (by simp)]; simpa using this.1
      · rw [List.getElem?_append_right (by simp)]; simpa using this.2.1
      · rw [List.getElem?_append_right (by simp)]; simpa using this.2.2

/-- A []uint32, a []api.Edge that reads as a list. -/
def RdU (w : World) (B : Nat) (A : Option Addr) (n c : Nat) (xs : List Int) : Prop :=
  Reads w B 1 A n (U xs) ∧ n ≤ c ∧ c ≤ 9223372036854775807 ∧ (A = none → c = 0) ∧ ∀ x ∈ xs, 0 ≤ x ∧ x < 4294967296
def RdE (w : World) (B : Nat) (A : Option Addr) (n c : Nat) (es : List Edg) : Prop :=
  Reads w B 3 A n (Ed es) ∧ n ≤ c ∧ c ≤ 9223372036854775807 ∧ (A = none → c = 0) ∧ ∀ e ∈ es, (0 ≤ e.1 ∧ e.1 < 4294967296) ∧ (0 ≤ e.2.1 ∧ e.2.1 < 4294967296) ∧ (0 ≤ e.2.2 ∧ e.2.2 < 4294967296)
section
variable {w w' : World} {B B' n c : Nat} {A : Option Addr} {xs : List Int} {es : List Edg}
theorem RdU.len (h : RdU w B A n c xs) : xs.length = n := by have := h.1.1; rw [U_len] at this; omega
theorem RdE.len (h : RdE w B A n c es) : es.length = n := by have := h.1.1; rw [Ed_len] at this; omega
theorem RdU.bd (h : RdU w B A n c xs) : n ≤ c ∧ c ≤ 9223372036854775807 := ⟨h.2.1, h.2.2.1⟩
theorem RdE.bd (h : RdE w B A n c es) : n ≤ c ∧ c ≤ 9223372036854775807 := ⟨h.2.1, h.2.2.1⟩
theorem RdU.below (h : RdU w B A n c xs) (hb : Below B w w') : RdU w' B A n c xs := ⟨h.1.below hb, h.2⟩
theorem RdE.below (h : RdE w B A n c es) (hb : Below B w w') : RdE w' B A n c es := ⟨h.1.below hb, h.2⟩
theorem RdU.more (h : RdU w B A n c xs) (hB : B ≤ B') : RdU w B' A n c xs := ⟨h.1.more hB, h.2⟩
theorem RdE.more (h : RdE w B A n c es) (hB : B ≤ B') : RdE w B' A n c es := ⟨h.1.more hB, h.2⟩
theorem RdU.drew (h : RdU w B A n c xs) : RdU w.drew B A n c xs := h
theorem RdE.drew (h : RdE w B A n c es) : RdE w.drew B A n c es := h
theorem RdU.drewN (h : RdU w B A n c xs) (q : Nat) : RdU (w.drewN q) B A n c xs := h
theorem RdE.drewN (h : RdE w B A n c es) (q : Nat) : RdE (w.drewN q) B A n c es := h
theorem below_drewN {B : Nat} {a w : World} (h : Below B a w) (n : Nat) : Below B a (w.drewN n) := ⟨h.os, h.tape, h.output, h.size, h.block⟩
theorem RdU.at_ {k : Nat} (h : RdU w B A n c xs) (hk : k < n) :
    ∃ ad x, A = some ad ∧ ad.block < B ∧ xs[k]? = some x ∧ (0 ≤ x ∧ x < 4294967296) ∧ w.cell? (ad.add k) = some (.int .u32 x) := by
  obtain ⟨ad, e, hb, hc⟩ := h.1.2 (by omega)
  have hl : k < xs.length := by have := h.len; omega
  exact ⟨ad, xs[k], e, hb, List.getElem?_eq_getElem hl, h.2.2.2.2 _ (List.getElem_mem hl), hc k _ (U_at (List.getElem?_eq_getElem hl))⟩
theorem RdE.at_ {k : Nat} (h : RdE w B A n c es) (hk : k < n) :
    ∃ ad x, A = some ad ∧ ad.block < B ∧ es[k]? = some x ∧ ((0 ≤ x.1 ∧ x.1 < 4294967296) ∧ (0 ≤ x.2.1 ∧ x.2.1 < 4294967296) ∧ (0 ≤ x.2.2 ∧ x.2.2 < 4294967296)) ∧
      w.cell? (ad.add (k * 3)) = some (.int .u32 x.1) ∧ w.cell? ⟨(ad.add (k * 3)).block, (ad.add (k * 3)).off + 1, none⟩ = some (.int .u32 x.2.1) ∧
      w.cell? ⟨(ad.add (k * 3)).block, (ad.add (k * 3)).off + 2, none⟩ = some (.int .u32 x.2.2) := by
  obtain ⟨ad, e, hb, hc⟩ := h.1.2 (by omega)
  have hl : k < es.length := by have := h.len; omega
  obtain ⟨h1, h2, h3⟩ := Ed_at (List.getElem?_eq_getElem hl)
  exact ⟨ad, es[k], e, hb, List.getElem?_eq_getElem hl, h.2.2.2.2 _ (List.getElem_mem hl), hc _ _ h1, by rw [add_next]; exact hc _ _ h2, by rw [add_next]; exact hc _ _ h3⟩
end

/-- Old cells and old marks behind 'Below'. -/
theorem bcell {B : Nat} {W w1 : World} (hb : Below B W w1) : (∀ b o, b < B → w1.cell? ⟨b, o, none⟩ = W.cell? ⟨b, o, none⟩) ∧ (∀ b o, b < B → w1.frozen? ⟨b, o, none⟩ = W.frozen? ⟨b, o, none⟩) :=
  ⟨fun b o h => hb.cell (p := ⟨b, o, none⟩) h, fun b o h => hb.frozen (p := ⟨b, o, none⟩) h⟩

theorem ret_int {k : IntKind} {a b : Int} (h : a = b) : Ending.returned (.int k a) = .returned (.int k b) := by rw [h]
theorem ret_bool {a b : Bool} (h : a = b) : Ending.returned (.bool a) = .returned (.bool b) := by rw [h]
theorem drop_at {α : Type} {xs : List α} {k : Nat} {x : α} (h : xs[k]? = some x) : xs.drop k = x :: xs.drop (k + 1) := by
  obtain ⟨hk, e⟩ := List.getElem?_eq_some_iff.1 h
  rw [List.drop_eq_getElem_cons hk, e]
theorem take_at {α : Type} {xs : List α} {k : Nat} {x : α} (h : xs[k]? = some x) : xs.take (k + 1) = xs.take k ++ [x] := by
  obtain ⟨hk, e⟩ := List.getElem?_eq_some_iff.1 h
  rw [List.take_succ_eq_append_getElem hk, e]

/-- The place of x. -/
def idx (xs : List Int) (x : Int) : Int := if x ∈ xs then (xs.idxOf x : Int) else -1
theorem idx_miss {xs : List Int} {x : Int} (h : ∀ j, j < xs.length → xs[j]? ≠ some x) : idx xs x = -1 := by
  unfold idx
  rw [if_neg]
  intro hm
  obtain ⟨j, hj, e⟩ := List.mem_iff_getElem.1 hm
  exact h j hj (by rw [List.getElem?_eq_getElem hj, e])
theorem idxOf_hit {α : Type} [BEq α] [LawfulBEq α] {xs : List α} {x : α} : ∀ {k : Nat}, (∀ j, j < k → xs[j]? ≠ some x) → xs[k]? = some x → xs.idxOf x = k := by
  induction xs with
  | nil => intro k _ h; simp at h
  | cons y ys ih =>
    intro k hj hk
    rw [List.idxOf_cons]
    cases k with
    | zero => simp at hk; simp [hk]
    | succ k =>
      have h0 := hj 0 (by omega)
      simp at h0
      have := ih (k := k) (fun j hjk => by have := hj (j + 1) (by omega); simpa using this) (by simpa using hk)
      have hb : (y == x) = false := by simp [h0]
      rw [hb]; simp [this]
theorem idx_hit {xs : List Int} {x : Int} {k : Nat} (hj : ∀ j, j < k → xs[j]? ≠ some x) (hk : xs[k]? = some x) : idx xs x = k := by
  unfold idx
  rw [if_pos (List.mem_of_getElem? hk), idxOf_hit hj hk]
theorem idx_neg (xs : List Int) (x : Int) : (idx xs x < 0) = (x ∉ xs) := by
  unfold idx
  split <;> rename_i h <;> simp [h]
theorem idx_lo (xs : List Int) (x : Int) : -1 ≤ idx xs x ∧ idx xs x < xs.length ∨ xs = [] ∧ idx xs x = -1 := by
  unfold idx
  split
  · rename_i h; have := List.idxOf_lt_length_of_mem h; left; omega
  · rename_i h; cases xs <;> simp
    omega
end Go.Proofs.Ytklmckbpbloonaa

namespace Go.Proofs.Ytklmckbpbloonaa
open Go.RowKit

/-- 'r': the row that an append may write to: none: there is no room at all. -/
def Own (w : World) (e : TypeId) (size : Nat) (r : Option Nat) (A : Option Addr) (n c : Nat) (xs : List Value) : Prop :=
  n ≤ c ∧ c ≤ 9223372036854775807 ∧ xs.length = n * size ∧
  match r with
  | none => c = 0
  | some g => A = some ⟨g, 0, none⟩ ∧ ∃ cur : Array Value, w.heap[g]? = some (.cells cur e (0, 0)) ∧ cur.size = c * size ∧ cur.toList.take (n * size) = xs

section
variable {w w' : World} {e : TypeId} {size n c : Nat} {r : Option Nat} {A : Option Addr} {xs : List Value}
theorem Own.cap0 (h : Own w e size r A n c xs) (hr : r = none) : c = 0 := by subst hr; exact h.2.2.2
theorem Own.nil_ (w : World) (e : TypeId) (size : Nat) (A : Option Addr) : Own w e size none A 0 0 [] := ⟨Nat.le_refl _, by omega, by simp, rfl⟩
theorem Own.lt (h : Own w e size r A n c xs) : ∀ g, r = some g → g < w.heap.size := by
  rintro g rfl
  obtain ⟨_, _, _, _, cur, hh, _⟩ := h
  exact Blk.lt (cs := cur) (t := e) hh
theorem Own.kept {row : Option Nat} (h : Own w e size r A n c xs) (hg : w.grownBy w' row) (hne : r = none ∨ r ≠ row) : Own w' e size r A n c xs := by
  have hl := h.lt
  cases r with
  | none => exact h
  | some g =>
    obtain ⟨h1, h2, h3, h4, cur, h5, h6⟩ := h
    exact ⟨h1, h2, h3, h4, cur, (hg.block g (hl g rfl) (by rcases hne with h | h; cases h; exact h)).trans h5, h6⟩
theorem Own.alloc (h : Own w e size r A n c xs) (o : Obj) : Own (w.alloc o) e size r A n c xs := h.kept (World.grownBy_alloc w o none) (by cases r <;> simp)
theorem Own.drew (h : Own w e size r A n c xs) : Own w.drew e size r A n c xs := h
theorem Own.drewN (h : Own w e size r A n c xs) (q : Nat) : Own (w.drewN q) e size r A n c xs := h
theorem Own.below {B : Nat} (h : Own w e size r A n c xs) (hb : Below B w w') (hB : ∀ g, r = some g → g < B) : Own w' e size r A n c xs := by
  cases r with
  | none => exact h
  | some g =>
    obtain ⟨h1, h2, h3, h4, cur, h5, h6⟩ := h
    exact ⟨h1, h2, h3, h4, cur, (hb.block g (hB g rfl)).trans h5, h6⟩
theorem Own.setCell_far (h : Own w e size r A n c xs) {p : Addr} (hp : ∀ g, r = some g → g ≠ p.block) (u : Value) : Own (w.setCell p u) e size r A n c xs := by
  cases r with
  | none => exact h
  | some g =>
    obtain ⟨h1, h2, h3, h4, cur, h5, h6⟩ := h
    exact ⟨h1, h2, h3, h4, cur, (Below.heap_setCell w p u g (hp g rfl)).trans h5, h6⟩
theorem Own.reads (h : Own w e size r A n c xs) : Reads w w.heap.size size A n xs := by
  obtain ⟨h1, h2, h3, h4⟩ := h
  refine ⟨h3, fun hn => ?_⟩
  cases r with
  | none => simp only at h4; omega
  | some g =>
    obtain ⟨rfl, cur, h5, h6, h7⟩ := h4
    refine ⟨_, rfl, Blk.lt (cs := cur) (t := e) h5, fun j u hu => ?_⟩
    have hj : j < n * size := by
      rcases Nat.lt_or_ge j (n * size) with hj | hj
      · exact hj
      · rw [List.getElem?_eq_none (by omega)] at hu; cases hu
    rw [Addr.add_lit, cell_of_row w g _ cur e (0, 0) h5, Nat.zero_add, ← hu, ← h7, List.getElem?_take_of_lt hj]
    simp
theorem Own.of_row {base : Nat} {v : Value} (h : w.ownsRow base e size v n xs) (hn : 0 < n ∨ v.ownBlock ≠ none) :
    ∃ g c, v = .slice (some ⟨g, 0, none⟩) n c ∧ base ≤ g ∧ Own w e size (some g) (some ⟨g, 0, none⟩) n c xs := by
  rcases h.2 with ⟨rfl, rfl⟩ | ⟨g, cap, cur, rfl, hg, hh, h1, h2, h3, h4⟩
  · rcases hn with hn | hn
    · omega
    · exact absurd rfl hn
  · exact ⟨g, cap, rfl, hg, h1, by simpa [maxLen] using h2, h.1, rfl, cur, hh, h3, h4⟩
theorem Own.to_row {base g : Nat} (h : Own w e size (some g) A n c xs) (hb : base ≤ g) : w.ownsRow base e size (.slice A n c) n xs := by
  obtain ⟨h1, h2, h3, rfl, cur, h5, h6, h7⟩ := h
  exact ⟨h3, .inr ⟨g, c, cur, rfl, hb, h5, h1, by simpa [maxLen] using h2, h6, h7⟩⟩
/-- A shorter piece of the row, from its head on. -/
theorem Own.cutTo {m : Nat} (h : Own w e size r A n c xs) (hm : m ≤ n) : Own w e size r A m c (xs.take (m * size)) := by
  obtain ⟨h1, h2, h3, h4⟩ := h
  have hle : m * size ≤ n * size := Nat.mul_le_mul_right _ hm
  refine ⟨by omega, h2, by rw [List.length_take]; omega, ?_⟩
  cases r with
  | none => exact h4
  | some g =>
    obtain ⟨rfl, cur, h5, h6, h7⟩ := h4
    exact ⟨rfl, cur, h5, h6, by rw [← h7, List.take_take, Nat.min_eq_left hle]⟩
end

section
variable {P : Program} (w : World)
theorem run_append_x (t ty e : TypeId) (i : TypeInfo) (z : Value) (size bytes : Nat) (ht : P.underlying t = some (.slice e)) (hi : P.info? e = some i) (hz : i.zero = some z)
    (hsize : i.size = size) (hby : i.bytes = bytes) (hzs : z.cells.size = size) (hsz : 0 < size)
    (r : Option Nat) (A : Option Addr) (n c : Nat) (xs : List Value) (hown : Own w e size r A n c xs) (hA : A = none → r = none)
    (B : Nat) (A' : Option Addr) (m c' : Nat) (news : List Value) (hr : Reads w B size A' m news) (h1 : ∀ u ∈ news, u.oneCell' = true)
    (h63 : n + m ≤ maxLen) (hbytes : (n + m) * bytes ≤ 140737488355328) :
    ∃ r' A'' c'' w', (Builtin.append_ #[t, t] ty #[.slice A n c, .slice A' m c']).run P w = .ok (.slice A'' (n + m) c'') w' ∧ Own w' e size r' A'' (n + m) c'' (xs ++ news) ∧ w.grownBy w' r ∧
      (r' = r ∨ ∀ g, r' = some g → w.heap.size ≤ g) := by
  rcases Nat.eq_zero_or_pos m with h0 | hpos
  · -- nothing is appended
    subst h0
    have hn : news = [] := List.eq_nil_of_length_eq_zero (by simpa using hr.1)
    subst hn
    refine ⟨r, A, c, w, ?_, by simpa using hown, World.grownBy.refl w _, .inl rfl⟩
    cases A with
    | none =>
      have hr0 := hA rfl
      subst hr0
      obtain ⟨a1, _, _, a2⟩ := hown
      simp only at a2
      subst a2
      have hn0 : n = 0 := by omega
      subst hn0
      cases A' <;> simp [Builtin.append_, run_underlying ht, sizeOf, typeInfo, hi, Builtin.lenOf, Builtin.firstCells, loadCells, loadCellsFrom]
    | some b =>
      have hnc := hown.1
      cases A' <;> simp [Builtin.append_, run_underlying ht, sizeOf, typeInfo, hi, Builtin.lenOf, Builtin.firstCells, hnc, storeCells, loadCells, loadCellsFrom]
  · obtain ⟨ad, rfl, _, hc⟩ := hr.2 hpos
    cases r with
    | some g =>
      have hlt := hown.lt g rfl
      obtain ⟨v', w', hrun, h2, h3, _, h5⟩ := run_append_own_at (P := P) w 0 t ty e i z size bytes ht hi hz hsize hby hzs hsz _ n xs (hown.to_row (Nat.zero_le _)) ad m c' news hr.1 hc h1 h63 hbytes (Nat.zero_le _)
      obtain ⟨g', c'', rfl, _, ho⟩ := Own.of_row h2 (.inl (by omega))
      obtain ⟨_, _, _, rfl, _⟩ := hown
      refine ⟨some g', _, c'', w', hrun, ho, h3, ?_⟩
      rcases h5 with h5 | h5
      · left; simpa [Value.ownBlock] using h5
      · right; rintro g2 ⟨⟩; have : g' = w.heap.size := by simpa [Value.ownBlock] using h5
        omega
    | none =>
      obtain ⟨a1, _, a3, a2⟩ := hown
      simp only at a2
      subst a2
      have hn0 : n = 0 := by omega
      subst hn0
      have hxs : xs = [] := List.eq_nil_of_length_eq_zero (by simpa using a3)
      subst hxs
      have fin : ∀ v' w', (Builtin.append_ #[t, t] ty #[.slice A 0 0, .slice (some ad) m c']).run P w = .ok v' w' → w'.ownsRow w.heap.size e size v' (0 + m) ([] ++ news) → w.grownBy w' none →
          ∃ r' A'' c'' w', (Builtin.append_ #[t, t] ty #[.slice A 0 0, .slice (some ad) m c']).run P w = .ok (.slice A'' (0 + m) c'') w' ∧ Own w' e size r' A'' (0 + m) c'' ([] ++ news) ∧ w.grownBy w' none ∧ (r' = none ∨ ∀ g, r' = some g → w.heap.size ≤ g) := by
        intro v' w' hrun h2 h3
        obtain ⟨g', c'', rfl, hg', ho⟩ := Own.of_row h2 (.inl (by omega))
        exact ⟨some g', _, c'', w', hrun, ho, h3, .inr (by rintro g2 ⟨⟩; exact hg')⟩
      cases A with
      | none =>
        obtain ⟨v', w', hrun, h2, h3, _, h5⟩ := run_append_own_at (P := P) w w.heap.size t ty e i z size bytes ht hi hz hsize hby hzs hsz (.slice none 0 0) 0 [] (World.ownsRow_nil w _ e size) ad m c' news hr.1 hc h1 h63 hbytes (Nat.le_refl _)
        exact fin v' w' hrun h2 h3
      | some b =>
        obtain ⟨v', w', hrun, h2, h3⟩ := run_append_arg_grows (P := P) w t ty e i z size bytes ht hi hz hsize hby hzs hsz b 0 0 [] (by simp) (by simp) ad m c' news hr.1 hc (by omega) h63 hbytes
        exact fin v' w' hrun h2 h3

theorem wp_append_x {o : Oper} {a : Act} {K : Act → World → Prop} {Q : Exit → Act → World → Prop} (s x : Operand) (t : TypeId)
    (ho : o.op = .call { callee := .builtin .append, args := #[s, x], argTypes := #[t, t] })
    (e : TypeId) (i : TypeInfo) (z : Value) (size bytes : Nat) (ht : P.underlying t = some (.slice e)) (hi : P.info? e = some i) (hz : i.zero = some z)
    (hsize : i.size = size) (hby : i.bytes = bytes) (hzs : z.cells.size = size) (hsz : 0 < size)
    (r : Option Nat) (A : Option Addr) (n c : Nat) (xs : List Value) (hs : a.eval s = .slice A n c) (hown : Own w e size r A n c xs) (hA : A = none → r = none)
    (B : Nat) (A' : Option Addr) (m c' : Nat) (news : List Value) (hx : a.eval x = .slice A' m c') (hr : Reads w B size A' m news) (h1 : ∀ u ∈ news, u.oneCell' = true)
    (h63 : n + m ≤ maxLen) (hbytes : (n + m) * bytes ≤ 140737488355328)
    (h : ∀ r' A'' c'' w', Own w' e size r' A'' (n + m) c'' (xs ++ news) → w.grownBy w' r → (r' = r ∨ ∀ g, r' = some g → w.heap.size ≤ g) → K (a.put o.dst (.slice A'' (n + m) c'')) w') : o.wp P a w K Q := by
  obtain ⟨r', A'', c'', w', hrun, h2, h3, h4⟩ := run_append_x (P := P) w t o.type e i z size bytes ht hi hz hsize hby hzs hsz r A n c xs hown hA B A' m c' news hr h1 h63 hbytes
  unfold Oper.wp execOp
  simp only [ho, resolve, invoke, builtin, Sem.run_bind, Sem.run_pure, Result.andThen_ok, List.map_toArray, List.map_cons, List.map_nil, hs, hx, hrun]
  exact h r' A'' c'' w' h2 h3 h4

theorem wpList_append_x {ops : Array Oper} {rest : List Oper} {o : Oper} {a : Act} {Q : Exit → Act → World → Prop} (hgd : o.guard = none) (s x : Operand) (t : TypeId)
    (ho : o.op = .call { callee := .builtin .append, args := #[s, x], argTypes := #[t, t] })
    (e : TypeId) (i : TypeInfo) (z : Value) (size bytes : Nat) (ht : P.underlying t = some (.slice e)) (hi : P.info? e = some i) (hz : i.zero = some z)
    (hsize : i.size = size) (hby : i.bytes = bytes) (hzs : z.cells.size = size) (hsz : 0 < size)
    (r : Option Nat) (A : Option Addr) (n c : Nat) (xs : List Value) (hs : a.eval s = .slice A n c) (hown : Own w e size r A n c xs) (hA : A = none → r = none)
    (B : Nat) (A' : Option Addr) (m c' : Nat) (news : List Value) (hx : a.eval x = .slice A' m c') (hr : Reads w B size A' m news) (h1 : ∀ u ∈ news, u.oneCell' = true)
    (h63 : n + m ≤ maxLen) (hbytes : (n + m) * bytes ≤ 140737488355328)
    (h : ∀ r' A'' c'' w', Own w' e size r' A'' (n + m) c'' (xs ++ news) → w.grownBy w' r → (r' = r ∨ ∀ g, r' = some g → w.heap.size ≤ g) → wpList P ops Q rest (a.put o.dst (.slice A'' (n + m) c'')) w') : wpList P ops Q (o :: rest) a w :=
  wpList_plain hgd fun _ hK => wp_append_x w s x t ho e i z size bytes ht hi hz hsize hby hzs hsz r A n c xs hs hown hA B A' m c' news hx hr h1 h63 hbytes fun r' A'' c'' w' h2 h3 h4 => hK _ _ (h r' A'' c'' w' h2 h3 h4)

theorem step_append_x {ops : Array Oper} {o : Oper} {a : Act} {K : Act → World → Prop} {Q : Exit → Act → World → Prop} {E : Prop} (hgd : o.guard = none) (s x : Operand) (t : TypeId)
    (ho : o.op = .call { callee := .builtin .append, args := #[s, x], argTypes := #[t, t] })
    (e : TypeId) (i : TypeInfo) (z : Value) (size bytes : Nat) (ht : P.underlying t = some (.slice e)) (hi : P.info? e = some i) (hz : i.zero = some z)
    (hsize : i.size = size) (hby : i.bytes = bytes) (hzs : z.cells.size = size) (hsz : 0 < size)
    (r : Option Nat) (A : Option Addr) (n c : Nat) (xs : List Value) (hs : a.eval s = .slice A n c) (hown : Own w e size r A n c xs) (hA : A = none → r = none)
    (B : Nat) (A' : Option Addr) (m c' : Nat) (news : List Value) (hx : a.eval x = .slice A' m c') (hr : Reads w B size A' m news) (h1 : ∀ u ∈ news, u.oneCell' = true)
    (h63 : n + m ≤ maxLen) (hbytes : (n + m) * bytes ≤ 140737488355328)
    (h : ∀ r' A'' c'' w', Own w' e size r' A'' (n + m) c'' (xs ++ news) → w.grownBy w' r → (r' = r ∨ ∀ g, r' = some g → w.heap.size ≤ g) → K (a.put o.dst (.slice A'' (n + m) c'')) w') :
    if Region.wanted o (yielded ops a.tmps) = true then Oper.wp P o a w K Q else E := by
  have hw : Region.wanted o (yielded ops a.tmps) = true := by simp [Region.wanted, hgd]
  rw [if_pos hw]
  exact wp_append_x w s x t ho e i z size bytes ht hi hz hsize hby hzs hsz r A n c xs hs hown hA B A' m c' news hx hr h1 h63 hbytes h
end

theorem Own.block {w : World} {e : TypeId} {size n c : Nat} {r : Option Nat} {A : Option Addr} {xs : List Value} (h : Own w e size r A n c xs) {g : Nat} (hr : r = some g) : ∃ cur, w.heap[g]? = some (.cells cur e (0, 0)) := by
  subst hr
  obtain ⟨_, _, _, _, cur, h5, _⟩ := h
  exact ⟨cur, h5⟩
end Go.Proofs.Ytklmckbpbloonaa

namespace Go.Proofs.Ytklmckbpbloonaa
open Go.RowKit

/-! What both compute. -/
def chkN (last n : Int) : Int := if n < 1 ∨ 1048576 < n then 2 else if n ≤ last then 19 else 0
def chkVs : Int → List Int → Int
  | _, [] => 0
  | last, v :: vs => if chkN last v ≠ 0 then chkN last v else chkVs v vs
def chkE (all : List Int) (last : Int) (e : Edg) : Int :=
  if chkN last e.1 ≠ 0 then chkN last e.1 else if e.2.1 = e.2.2 then 20 else if e.2.1 ∉ all ∨ e.2.2 ∉ all then 21 else 0
def chkEs (all : List Int) : Int → List Edg → Int
  | _, [] => 0
  | last, e :: es => if chkE all last e ≠ 0 then chkE all last e else chkEs all e.1 es
def gcheck (vs : List Int) (es : List Edg) : Int :=
  if 64 < vs.length ∨ 160 < es.length then 6 else if chkVs 0 vs ≠ 0 then chkVs 0 vs else chkEs vs 0 es

set_option maxHeartbeats 400000 in
theorem number_any (last n : Int) (w : World) :
    Calls Try.prog 56 #[.int .u32 last, .int .u32 n] w fun e w' => e = .returned (.int .i64 (chkN last n)) ∧ w = w' := by
  by_cases h1 : n < 1
  · go_enter Try.func56, Try.ntmps56
    go_wp2
    go_ret
    exact ⟨ret_int (by simp [chkN, h1]), rfl⟩
  · by_cases h2 : 1048576 < n
    · go_enter Try.func56, Try.ntmps56
      go_wp2
      go_ret
      exact ⟨ret_int (by simp [chkN, h2]), rfl⟩
    · by_cases h3 : n ≤ last
      · go_enter Try.func56, Try.ntmps56
        go_wp2
        go_ret
        exact ⟨ret_int (by simp [chkN, h1, h2, h3]), rfl⟩
      · go_enter Try.func56, Try.ntmps56
        go_wp2
        go_ret
        exact ⟨ret_int (by unfold chkN; rw [if_neg (by omega), if_neg (by omega)]), rfl⟩

set_option maxHeartbeats 400000 in
theorem index_any (B : Nat) (A : Option Addr) (n c : Nat) (xs : List Int) (x : Int) (w : World) (h : RdU w B A n c xs) :
    Calls Try.prog 59 #[.slice A n c, .int .u32 x] w fun e w' => e = .returned (.int .i64 (idx xs x)) ∧ w = w' := by
  have HL := Lib.hid h.len
  obtain ⟨hn, hc⟩ := h.bd
  go_enter Try.func59, Try.ntmps59
  go_wp2
  go_loop [8] (fun i => ∃ k : Nat, k ≤ n ∧ i = .int .i64 k ∧ Hid (∀ j, j < k → xs[j]? ≠ some x)) (fun i => n - (intOf i).toNat)
  case atStart => exact ⟨0, Nat.zero_le _, rfl, fun j hj => absurd hj (by omega)⟩
  case round =>
    obtain ⟨k, hk, rfl, HJ⟩ := hrel
    by_cases hlt : k < n
    · obtain ⟨ad, y, rfl, _, hy, _, hcell⟩ := h.at_ hlt
      have HY := Lib.hid hy
      clear hy
      by_cases he : x = y
      · subst he
        go_wp2
        go_ret
        exact ⟨ret_int (idx_hit HJ.out HY.out).symm, rfl⟩
      · have he' : (x == y) = false := by simpa using he
        clear he
        go_wp2
        go_round
        case rel =>
          refine ⟨k + 1, by omega, by go_num, fun j hj => ?_⟩
          by_cases e : j = k
          · subst e; rw [HY.out]; intro e; simp at e; simp [e] at he'
          · exact HJ.out j (by omega)
        case measure => simp [intOf]; omega
    · go_wp2
      go_ret
      exact ⟨ret_int (idx_miss fun j hj => HJ.out j (by have := HL.out; omega)).symm, rfl⟩

set_option maxHeartbeats 400000 in
theorem vert_any (B : Nat) (A : Option Addr) (n c : Nat) (xs : List Int) (v1 : Value) (x : Int) (w : World) (h : RdU w B A n c xs) (hB : B ≤ w.heap.size) :
    Calls Try.prog 19 #[.agg #[.slice A n c, v1], .int .u32 x] w fun e w' => e = .returned (.int .i64 (idx xs x)) ∧ Below w.heap.size w w' := by
  have hb : Below w.heap.size w (w.alloc (.cells #[.slice A n c, v1] 25)) := (Below.refl _ _).alloc (Nat.le_refl _) _
  go_enter Try.func19, Try.ntmps19
  go_wp2_with (go_at_call 59; refine (index_any B A n c xs x _ (h.below (hb.mono hB))).mono ?_; rintro e w' ⟨rfl, rfl⟩)
  go_ret
  exact ⟨rfl, hb⟩

theorem chkVs_cons (last v : Int) (vs : List Int) : chkVs last (v :: vs) = if chkN last v ≠ 0 then chkN last v else chkVs v vs := rfl
theorem chkEs_cons (all : List Int) (last : Int) (e : Edg) (es : List Edg) : chkEs all last (e :: es) = if chkE all last e ≠ 0 then chkE all last e else chkEs all e.1 es := rfl

set_option maxHeartbeats 1000000 in
theorem check_any (B : Nat) (A A' : Option Addr) (n c n' c' : Nat) (vs : List Int) (es : List Edg) (w : World) (h : RdU w B A n c vs) (h' : RdE w B A' n' c' es) (hB : B ≤ w.heap.size) :
    Calls Try.prog 14 #[.agg #[.slice A n c, .slice A' n' c']] w fun e w' => e = .returned (.int .i64 (gcheck vs es)) ∧ Below w.heap.size w w' := by
  have HL := Lib.hid h.len
  have HL' := Lib.hid h'.len
  obtain ⟨hn, hc⟩ := h.bd
  obtain ⟨hn', hc'⟩ := h'.bd
  have hb : Below w.heap.size w (w.alloc (.cells #[.slice A n c, .slice A' n' c'] 25)) := (Below.refl _ _).alloc (Nat.le_refl _) _
  by_cases h64 : 64 < n
  · go_enter Try.func14, Try.ntmps14
    go_wp2
    go_ret
    exact ⟨ret_int (by unfold gcheck; rw [if_pos (by have := HL.out; omega)]), hb⟩
  by_cases h160 : 160 < n'
  · go_enter Try.func14, Try.ntmps14
    go_wp2
    go_ret
    exact ⟨ret_int (by unfold gcheck; rw [if_pos (by have := HL'.out; omega)]), hb⟩
  have HG : Hid (gcheck vs es = if chkVs 0 vs ≠ 0 then chkVs 0 vs else chkEs vs 0 es) := by
    show gcheck vs es = _
    unfold gcheck; rw [if_neg (by have := HL.out; have := HL'.out; omega)]
  have hr := h.below (hb.mono hB)
  have HB := Lib.hid hb
  clear hb
  go_enter Try.func14, Try.ntmps14
  go_wp2
  go_loop [3, 23] (fun l i => ∃ (k : Nat) (last : Int), k ≤ n ∧ i = .int .i64 k ∧ l = .int .u32 last ∧ Hid (chkVs last (vs.drop k) = chkVs 0 vs)) (fun _ i => n - (intOf i).toNat)
  case atStart => exact ⟨0, 0, Nat.zero_le _, rfl, rfl, rfl⟩
  case round =>
    obtain ⟨k, last, hk, rfl, rfl, HJ⟩ := hrel
    by_cases hlt : k < n
    · obtain ⟨ad, y, rfl, hbl, hy, _, hcell⟩ := hr.at_ hlt
      have HY := Lib.hid hy
      clear hy
      by_cases he : chkN last y = 0
      · have HE := Lib.hid he
        clear he
        go_wp2_with (go_at_call 56; refine (number_any _ _ _).mono ?_; rintro e w' ⟨rfl, rfl⟩; rw [HE.out])
        go_round
        case rel =>
          refine ⟨k + 1, y, by omega, by go_num, rfl, ?_⟩
          show chkVs y (vs.drop (k + 1)) = chkVs 0 vs
          rw [← HJ.out, drop_at HY.out, chkVs_cons, if_neg (by simp [HE.out])]
        case measure => simp [intOf]; omega
      · have he' : (chkN last y != 0) = true := by simpa using he
        have HE := Lib.hid he
        clear he
        go_wp2_with (go_at_call 56; refine (number_any _ _ _).mono ?_; rintro e w' ⟨rfl, rfl⟩)
        go_ret
        refine ⟨ret_int ?_, HB.out⟩
        have e1 : chkVs 0 vs = chkN last y := by rw [← HJ.out, drop_at HY.out, chkVs_cons, if_pos HE.out]
        rw [HG.out, e1, if_pos HE.out]
    · obtain rfl : k = n := by omega
      have HV : Hid (chkVs 0 vs = 0) := by
        show chkVs 0 vs = 0
        rw [← HJ.out, List.drop_of_length_le (by have := HL.out; omega)]; rfl
      have HG2 : Hid (gcheck vs es = chkEs vs 0 es) := by
        show gcheck vs es = chkEs vs 0 es
        rw [HG.out, if_neg (by simp [HV.out])]
      clear HJ HG
      go_wp2
      have hG0 := Blk.new w 25 #[.slice A k c, .slice A' n' c']
      go_loopw [3, 38] (fun l i wr => ∃ (j : Nat) (last : Int), j ≤ n' ∧ i = .int .i64 j ∧ l = .int .u32 last ∧ Hid (chkEs vs last (es.drop j) = chkEs vs 0 es) ∧
          Below w.heap.size w wr ∧ Blk wr w.heap.size 25 #[.slice A k c, .slice A' n' c']) (fun _ i _ => n' - (intOf i).toNat)
      case atStart => exact ⟨0, 0, Nat.zero_le _, rfl, rfl, rfl, HB.out, hG0⟩
      case round =>
        obtain ⟨j, last, hj, rfl, rfl, HJ, hbr, hG⟩ := hrel
        clear hG0
        have hq := h.below (hbr.mono hB)
        have hq' := h'.below (hbr.mono hB)
        obtain ⟨hg0, hg1⟩ := hG.c2
        have hsz := hG.lt
        by_cases hlt : j < n'
        · obtain ⟨ad, x, rfl, hbl, hx, _, hc1, hc2, hc3⟩ := hq'.at_ hlt
          have HX := Lib.hid hx
          clear hx
          have HU : Hid (chkEs vs last (es.drop j) = if chkE vs last x ≠ 0 then chkE vs last x else chkEs vs x.1 (es.drop (j + 1))) := by
            show chkEs vs last (es.drop j) = _
            rw [drop_at HX.out, chkEs_cons]
          have HBX := Lib.hid (hbr.alloc (by omega) (.cells #[.int .u32 x.1, .int .u32 x.2.1, .int .u32 x.2.2] 39))
          have hGx := hG.alloc (.cells #[.int .u32 x.1, .int .u32 x.2.1, .int .u32 x.2.2] 39)
          have hX := Blk.new wr 39 #[.int .u32 x.1, .int .u32 x.2.1, .int .u32 x.2.2]
          have hqx := hq.below (Below.alloc (Below.refl B wr) (by omega) (.cells #[.int .u32 x.1, .int .u32 x.2.1, .int .u32 x.2.2] 39))
          by_cases he : chkN last x.1 = 0
          · have HE := Lib.hid he
            clear he
            by_cases hab : x.2.1 = x.2.2
            · have hab' : (x.2.1 == x.2.2) = true := by simpa using hab
              have HAB := Lib.hid hab
              clear hab
              go_wp2_with (go_at_call 56; refine (number_any _ _ _).mono ?_; rintro e w' ⟨rfl, rfl⟩; rw [HE.out])
              go_ret
              refine ⟨ret_int ?_, HBX.out⟩
              have e1 : chkE vs last x = 20 := by unfold chkE; rw [if_neg (by simp [HE.out]), if_pos HAB.out]
              rw [HG2.out, ← HJ.out, HU.out, if_pos (by rw [e1]; decide), e1]
            · have hab' : (x.2.1 == x.2.2) = false := by simpa using hab
              have HAB := Lib.hid hab
              clear hab
              by_cases ha : idx vs x.2.1 < 0
              · go_wp2_with (first | (go_at_call 56; refine (number_any _ _ _).mono ?_; rintro e w' ⟨rfl, rfl⟩; rw [HE.out]) | (go_at_call 19; refine (vert_any B _ _ _ _ _ _ _ hqx (by simp; omega)).mono ?_; rintro e w' ⟨rfl, hb'⟩))
                go_ret
                refine ⟨ret_int ?_, HBX.out.trans (hb'.mono (by simp; omega))⟩
                have e1 : chkE vs last x = 21 := by unfold chkE; rw [if_neg (by simp [HE.out]), if_neg HAB.out, if_pos (.inl (by rw [← idx_neg]; exact ha))]
                rw [HG2.out, ← HJ.out, HU.out, if_pos (by rw [e1]; decide), e1]
              · have hba : Hid (¬ (x.2.1 ∉ vs)) := by show ¬ _; rw [← idx_neg]; exact ha
                by_cases hbn : idx vs x.2.2 < 0
                all_goals
                  go_wp2_with (first | (go_at_call 56; refine (number_any _ _ _).mono ?_; rintro e w' ⟨rfl, rfl⟩; rw [HE.out]) | (go_at_call_of 19 x.2.1; refine (vert_any B _ _ _ _ _ _ _ hqx (by simp; omega)).mono ?_; rintro e w' ⟨rfl, hb'⟩; have hqy := hqx.below (hb'.mono (by simp; omega)); have hGy := hGx.below hb' (by simp; omega); have hXy := hX.below hb' (by simp); obtain ⟨hc4, hc5⟩ := hGy.c2; obtain ⟨hc6, hc7, hc8⟩ := hXy.c3; have hsy := hXy.lt) | (go_at_call_of 19 x.2.2; refine (vert_any B _ _ _ _ _ _ _ hqy (by omega)).mono ?_; rintro e w'' ⟨rfl, hb''⟩))
                · go_ret
                  refine ⟨ret_int ?_, (HBX.out.trans (hb'.mono (by simp; omega))).trans (hb''.mono (by omega))⟩
                  have e1 : chkE vs last x = 21 := by unfold chkE; rw [if_neg (by simp [HE.out]), if_neg HAB.out, if_pos (.inr (by rw [← idx_neg]; exact hbn))]
                  rw [HG2.out, ← HJ.out, HU.out, if_pos (by rw [e1]; decide), e1]
                · have HBB : Hid (¬ (x.2.2 ∉ vs)) := by show ¬ _; rw [← idx_neg]; omega
                  go_roundw
                  case rel =>
                    refine ⟨j + 1, x.1, by omega, by go_num, rfl, ?_, (HBX.out.trans (hb'.mono (by simp; omega))).trans (hb''.mono (by omega)), hGy.below hb'' (by omega)⟩
                    have e1 : chkE vs last x = 0 := by
                      unfold chkE; rw [if_neg (by simp [HE.out]), if_neg HAB.out, if_neg (fun h => by rcases h with h | h; exact hba.out h; exact HBB.out h)]
                    show chkEs vs x.1 (es.drop (j + 1)) = chkEs vs 0 es
                    rw [← HJ.out, HU.out, if_neg (by simp [e1])]
                  case measure => simp [intOf]; omega
          · have he' : (chkN last x.1 != 0) = true := by simpa using he
            have HE := Lib.hid he
            clear he
            go_wp2_with (go_at_call 56; refine (number_any _ _ _).mono ?_; rintro e w' ⟨rfl, rfl⟩)
            go_ret
            refine ⟨ret_int ?_, HBX.out⟩
            have e1 : chkE vs last x = chkN last x.1 := by unfold chkE; rw [if_pos HE.out]
            rw [HG2.out, ← HJ.out, HU.out, if_pos (by rw [e1]; exact HE.out), e1]
        · go_wp2
          go_ret
          refine ⟨ret_int ?_, hbr⟩
          have e1 : es.drop j = [] := List.drop_of_length_le (by have := HL'.out; omega)
          rw [HG2.out, ← HJ.out, e1]
          rfl

end Go.Proofs.Ytklmckbpbloonaa

namespace Go.Proofs.Ytklmckbpbloonaa
open Go.RowKit
open Go.ChangeMaps (setBlock)

section
variable {α : Type}
def mget (m : List (Int × α)) (k : Int) : Option α := (m.find? (·.1 == k)).map (·.2)
def mput (m : List (Int × α)) (k : Int) (v : α) : List (Int × α) := if (mget m k).isSome then m.map fun p => if p.1 == k then (k, v) else p else m ++ [(k, v)]
def mkeys (m : List (Int × α)) : List Int := m.map (·.1)
theorem mget_none {m : List (Int × α)} {k : Int} : mget m k = none ↔ k ∉ mkeys m := by
  unfold mget mkeys
  rw [Option.map_eq_none_iff, List.find?_eq_none]
  simp only [List.mem_map, not_exists, not_and]
  exact ⟨fun h p hp e => h p hp (by simp [e]), fun h p hp e => h p hp (by simpa using e)⟩
theorem mget_some {m : List (Int × α)} {k : Int} : (mget m k).isSome = true ↔ k ∈ mkeys m := by
  cases h : mget m k with
  | none => have := mget_none.1 h; simp [this]
  | some v =>
    simp only [Option.isSome_some, true_iff]
    refine Classical.byContradiction fun hn => ?_
    rw [mget_none.2 hn] at h; cases h
theorem mget_mem {m : List (Int × α)} {k : Int} {v : α} (h : mget m k = some v) : (k, v) ∈ m := by
  unfold mget at h
  obtain ⟨p, hp, e⟩ := Option.map_eq_some_iff.1 h
  have h1 := List.mem_of_find?_eq_some hp
  have h2 := List.find?_some hp
  simp at h2
  obtain ⟨a, b⟩ := p
  simp at e h2
  subst e; subst h2; exact h1
theorem mget_of_mem {m : List (Int × α)} (hn : (mkeys m).Nodup) {k : Int} {v : α} (h : (k, v) ∈ m) : mget m k = some v := by
  induction m with
  | nil => cases h
  | cons p m ih =>
    obtain ⟨a, b⟩ := p
    simp only [mkeys, List.map_cons, List.nodup_cons] at hn
    unfold mget
    rw [List.find?_cons]
    rcases List.mem_cons.1 h with e | e
    · cases e; simp
    · have hne : (a == k) = false := by
        simp only [beq_eq_false_iff_ne]; rintro rfl
        exact hn.1 (List.mem_map.2 ⟨_, e, rfl⟩)
      simp only [hne]
      exact ih hn.2 e
theorem mkeys_mput (m : List (Int × α)) (k : Int) (v : α) : mkeys (mput m k v) = if k ∈ mkeys m then mkeys m else mkeys m ++ [k] := by
  unfold mput
  by_cases h : k ∈ mkeys m
  · rw [if_pos (mget_some.2 h), if_pos h]
    unfold mkeys
    rw [List.map_map]
    refine List.map_congr_left fun p _ => ?_
    show (if p.1 == k then (k, v) else p).1 = p.1
    split
    · rename_i e; simpa using (by simpa using e : p.1 = k).symm
    · rfl
  · rw [if_neg (by rw [mget_some]; exact h), if_neg h]
    simp [mkeys]
theorem nodup_mput {m : List (Int × α)} (hn : (mkeys m).Nodup) (k : Int) (v : α) : (mkeys (mput m k v)).Nodup := by
  rw [mkeys_mput]
  split
  · exact hn
  · rename_i h
    refine List.nodup_append.2 ⟨hn, by simp, ?_⟩
    intro a ha b hb
    simp only [List.mem_singleton] at hb
    subst hb; rintro rfl; exact h ha
theorem mget_mput {m : List (Int × α)} (k : Int) (v : α) (j : Int) : mget (mput m k v) j = if j = k then some v else mget m j := by
  unfold mput
  by_cases h : (mget m k).isSome
  · rw [if_pos h]
    have hk := mget_some.1 h
    clear h
    induction m with
    | nil => simp [mkeys] at hk
    | cons p m ih =>
      obtain ⟨a, b⟩ := p
      unfold mget
      simp only [List.map_cons, List.find?_cons]
      by_cases e : a = k
      · subst e
        by_cases ej : j = a
        · subst ej; simp
        · have h1 : (a == j) = false := by simp [Ne.symm ej]
          simp only [beq_self_eq_true, if_true, h1, if_neg ej]
          -- the rest
          clear ih hk
          induction m with
          | nil => rfl
          | cons p m ih2 =>
            simp only [List.map_cons, List.find?_cons]
            obtain ⟨c, d⟩ := p
            by_cases e2 : c = a
            · subst e2
              simp only [beq_self_eq_true, if_true, h1]
              exact ih2
            · have h2 : (c == a) = false := by simp [e2]
              simp only [h2, Bool.false_eq_true, if_false]
              by_cases e3 : c = j
              · subst e3; simp
              · have h3 : (c == j) = false := by simp [e3]
                simp only [h3]
                exact ih2
      · have h2 : (a == k) = false := by simp [e]
        simp only [h2, Bool.false_eq_true, if_false]
        by_cases e3 : a = j
        · subst e3; simp [e]
        · have h3 : (a == j) = false := by simp [e3]
          simp only [h3]
          exact ih (by simpa [mkeys, Ne.symm e] using hk)
  · rw [if_neg h]
    unfold mget
    rw [List.find?_append]
    by_cases ej : j = k
    · subst ej
      have : m.find? (fun x => x.1 == j) = none := by
        have h0 : mget m j = none := by simpa using h
        unfold mget at h0; simpa using h0
      rw [this]; simp
    · have h1 : (k == j) = false := by simp [Ne.symm ej]
      simp [h1, ej]
end

theorem nodup_of_map {α β : Type} {f : α → β} {l : List α} (h : (l.map f).Nodup) : l.Nodup := by
  unfold List.Nodup at h ⊢
  rw [List.pairwise_map] at h
  exact h.imp fun hne e => hne (by rw [e])
theorem erase_map {l : List MapEntry} (hb : (l.map (·.born)).Nodup) (hk : (l.map (·.key)).Nodup) {e : MapEntry} (he : e ∈ l) {q : IntKind} {left : List Int} (hl : l.map (·.key) = left.map (Value.int q)) {k : Int} (hek : e.key = .int q k) :
    (l.filter fun x => !(x.born == e.born)).map (·.key) = (left.erase k).map (Value.int q) := by
  induction l generalizing left with
  | nil => cases he
  | cons x l ih =>
    cases left with
    | nil => simp at hl
    | cons y left =>
      simp only [List.map_cons, List.cons.injEq] at hl
      simp only [List.map_cons, List.nodup_cons] at hb hk
      rw [List.filter_cons]
      rcases List.mem_cons.1 he with rfl | he
      · have hy : y = k := by have := hl.1.symm.trans hek; injection this
        subst hy
        simp only [beq_self_eq_true, Bool.not_true, Bool.false_eq_true, if_false, List.erase_cons_head]
        rw [← hl.2, List.filter_eq_self.2]
        intro z hz
        have : z.born ≠ e.born := fun e1 => hb.1 (by rw [← e1]; exact List.mem_map.2 ⟨z, hz, rfl⟩)
        simp [this]
      · have hne : x.born ≠ e.born := fun e1 => hb.1 (by rw [e1]; exact List.mem_map.2 ⟨e, he, rfl⟩)
        have hny : y ≠ k := by
          rintro rfl
          exact hk.1 (by rw [hl.1, ← hek]; exact List.mem_map.2 ⟨e, he, rfl⟩)
        have h1 : (!(x.born == e.born)) = true := by simp [hne]
        rw [if_pos h1, List.map_cons, ih hb.2 hk.2 he hl.2, List.erase_cons_tail (by simp [hny]), List.map_cons, hl.1]

section
variable {α : Type} {P : Program}
/-- Block b is a map with keys of kind q that holds just m. -/
def MapOf (w : World) (b : Nat) (q : IntKind) (enc : α → Value) (m : List (Int × α)) : Prop :=
  ∃ es clock, w.heap[b]? = some (.map es clock) ∧ MapKept.Stamped es clock ∧ es.toList.map (fun e => (e.key, e.val)) = m.map fun p => (Value.int q p.1, enc p.2)

theorem MapOf.lt {w : World} {b : Nat} {q : IntKind} {enc : α → Value} {m : List (Int × α)} (h : MapOf w b q enc m) : b < w.heap.size := by
  obtain ⟨es, clock, hb, _⟩ := h
  exact (Array.getElem?_eq_some_iff.1 hb).1
theorem MapOf.made (w : World) (q : IntKind) (enc : α → Value) : MapOf (w.alloc (.map #[] 0)) w.heap.size q enc [] :=
  ⟨#[], 0, heap_alloc_new w _, MapKept.stamped_empty 0, rfl⟩
theorem MapOf.block {w w' : World} {b : Nat} {q : IntKind} {enc : α → Value} {m : List (Int × α)} (h : MapOf w b q enc m) (e : w'.heap[b]? = w.heap[b]?) : MapOf w' b q enc m := by
  obtain ⟨es, clock, hb, h⟩ := h
  exact ⟨es, clock, e.trans hb, h⟩
theorem MapOf.drew {w : World} {b : Nat} {q : IntKind} {enc : α → Value} {m : List (Int × α)} (h : MapOf w b q enc m) : MapOf w.drew b q enc m := h
theorem MapOf.drewN {w : World} {b : Nat} {q : IntKind} {enc : α → Value} {m : List (Int × α)} (h : MapOf w b q enc m) (n : Nat) : MapOf (w.drewN n) b q enc m := h
theorem MapOf.alloc {w : World} {b : Nat} {q : IntKind} {enc : α → Value} {m : List (Int × α)} (h : MapOf w b q enc m) (o : Obj) : MapOf (w.alloc o) b q enc m := h.block (Below.heap_alloc w o b h.lt)
theorem MapOf.below {w w' : World} {b B : Nat} {q : IntKind} {enc : α → Value} {m : List (Int × α)} (h : MapOf w b q enc m) (hb : Below B w w') (hB : b < B) : MapOf w' b q enc m := h.block (hb.block b hB)
theorem MapOf.grown {w w' : World} {b : Nat} {row : Option Nat} {q : IntKind} {enc : α → Value} {m : List (Int × α)} (h : MapOf w b q enc m) (hg : w.grownBy w' row) (hne : some b ≠ row) : MapOf w' b q enc m := h.block (hg.block b h.lt hne)
theorem MapOf.setCell {w : World} {b : Nat} {q : IntKind} {enc : α → Value} {m : List (Int × α)} (h : MapOf w b q enc m) {p : Addr} (hp : b ≠ p.block) (u : Value) : MapOf (w.setCell p u) b q enc m := h.block (Below.heap_setCell w p u b hp)

theorem keys_of_map {q : IntKind} {enc : α → Value} {es : Array MapEntry} {m : List (Int × α)} (h : es.toList.map (fun e => (e.key, e.val)) = m.map fun p => (Value.int q p.1, enc p.2)) :
    es.toList.map (·.key) = (mkeys m).map (Value.int q) := by
  have := congrArg (List.map Prod.fst) h
  simpa [mkeys, List.map_map, Function.comp_def] using this
theorem MapOf.nodup {w : World} {b : Nat} {q : IntKind} {enc : α → Value} {m : List (Int × α)} (h : MapOf w b q enc m) : (mkeys m).Nodup := by
  obtain ⟨es, clock, hb, hs, hm⟩ := h
  have h3 := hs.2.2
  rw [keys_of_map hm] at h3
  exact nodup_of_map h3
theorem isKey_of_map {q : IntKind} {enc : α → Value} {es : Array MapEntry} {m : List (Int × α)} (h : es.toList.map (fun e => (e.key, e.val)) = m.map fun p => (Value.int q p.1, enc p.2)) :
    ∀ x ∈ es.toList, MapKept.IsKey (.int q) x.key := by
  intro x hx
  have : x.key ∈ es.toList.map (·.key) := List.mem_map.2 ⟨x, hx, rfl⟩
  rw [keys_of_map h] at this
  obtain ⟨k, _, e⟩ := List.mem_map.1 this
  rw [← e]; rfl

/-- A map's block is no row of cells. -/
theorem MapOf.ne_cells {w : World} {b : Nat} {q : IntKind} {enc : α → Value} {m : List (Int × α)} (h : MapOf w b q enc m) {g : Nat} {cs : Array Value} {t : TypeId} {f : Nat × Nat} (hc : w.heap[g]? = some (.cells cs t f)) : b ≠ g := by
  obtain ⟨es, clock, hb, _⟩ := h
  rintro rfl
  rw [hb] at hc
  cases hc

/-- What the model finds at a key. -/
theorem find_map {q : IntKind} {enc : α → Value} {es : Array MapEntry} {m : List (Int × α)} (h : es.toList.map (fun e => (e.key, e.val)) = m.map fun p => (Value.int q p.1, enc p.2)) (hn : (mkeys m).Nodup) (k : Int) :
    (Instr.findNow (.int q) (.int q k) es.toList 0 = some none ∧ mget m k = none ∧ ∀ x ∈ es.toList, x.key ≠ .int q k) ∨
    ∃ j e v, Instr.findNow (.int q) (.int q k) es.toList 0 = some (some (j, enc v)) ∧ es.toList[j]? = some e ∧ e.key = .int q k ∧ e.val = enc v ∧ mget m k = some v ∧ m[j]? = some (k, v) := by
  rcases MapKept.findNow_spec (d := .int q) (k := .int q k) rfl es.toList 0 (isKey_of_map h) with ⟨h1, h2⟩ | ⟨j, e, h1, h2, h3⟩
  · refine .inl ⟨h1, mget_none.2 fun hk => ?_, h2⟩
    have : Value.int q k ∈ es.toList.map (·.key) := by rw [keys_of_map h]; exact List.mem_map.2 ⟨k, hk, rfl⟩
    obtain ⟨x, hx, e⟩ := List.mem_map.1 this
    exact h2 x hx e
  · have e1 : (m.map fun p => (Value.int q p.1, enc p.2))[j]? = some (e.key, e.val) := by rw [← h, List.getElem?_map, h2]; rfl
    rw [List.getElem?_map] at e1
    obtain ⟨p, hp, e2⟩ := Option.map_eq_some_iff.1 e1
    obtain ⟨a, v⟩ := p
    simp only [Prod.mk.injEq] at e2
    have ha : a = k := by have := e2.1.trans h3; injection this
    subst ha
    refine .inr ⟨j, e, v, ?_, h2, h3, e2.2.symm, mget_of_mem hn (List.mem_of_getElem? hp), hp⟩
    rw [h1, Nat.zero_add, ← e2.2]

theorem MapOf.lookup {w : World} {b : Nat} {q : IntKind} {enc : α → Value} {m : List (Int × α)} (h : MapOf w b q enc m) {t K E : TypeId} (ht : P.underlying t = some (.map K E)) (hK : P.underlying K = some (.int q)) {z : Value} (hz : (zeroValue E).run P w = .ok z w) (k : Int) :
    (Instr.lookup t (.map (some b)) (.int q k) false).run P w = .ok (((mget m k).map enc).getD z) w := by
  have hn := h.nodup
  obtain ⟨es, clock, hb, hs, hm⟩ := h
  have hck := MapKept.run_checkKey (P := P) (w := w) (kt := K) (d := .int q) (k := .int q k) hK rfl es.isEmpty 9999
  rcases find_map hm hn k with ⟨h1, h2, _⟩ | ⟨j, e, v, h1, _, _, _, h2, _⟩
  · simp [Instr.lookup, run_underlying ht, MapKept.run_getObj_map hb, hck, MapKept.run_findKey hK h1, hz, h2, Result.andThen]
  · simp [Instr.lookup, run_underlying ht, MapKept.run_getObj_map hb, hck, MapKept.run_findKey hK h1, h2, Result.andThen]
theorem MapOf.lookupOk {w : World} {b : Nat} {q : IntKind} {enc : α → Value} {m : List (Int × α)} (h : MapOf w b q enc m) {t K E : TypeId} (ht : P.underlying t = some (.map K E)) (hK : P.underlying K = some (.int q)) {z : Value} (hz : (zeroValue E).run P w = .ok z w) (k : Int) :
    (Instr.lookup t (.map (some b)) (.int q k) true).run P w = .ok (.tuple #[((mget m k).map enc).getD z, .bool (mget m k).isSome]) w := by
  have hn := h.nodup
  obtain ⟨es, clock, hb, hs, hm⟩ := h
  have hck := MapKept.run_checkKey (P := P) (w := w) (kt := K) (d := .int q) (k := .int q k) hK rfl es.isEmpty 9999
  rcases find_map hm hn k with ⟨h1, h2, _⟩ | ⟨j, e, v, h1, _, _, _, h2, _⟩
  · simp [Instr.lookup, run_underlying ht, MapKept.run_getObj_map hb, hck, MapKept.run_findKey hK h1, hz, h2, Result.andThen]
  · simp [Instr.lookup, run_underlying ht, MapKept.run_getObj_map hb, hck, MapKept.run_findKey hK h1, h2, Result.andThen]

/-- The entries behind a store at a key. -/
theorem put_entries {q : IntKind} {enc : α → Value} {es : Array MapEntry} {clock : Nat} {m : List (Int × α)} (hs : MapKept.Stamped es clock) (hm : es.toList.map (fun e => (e.key, e.val)) = m.map fun p => (Value.int q p.1, enc p.2)) (hn : (mkeys m).Nodup) (k : Int) (v : α) :
    (mget m k = none ∧ Instr.findNow (.int q) (.int q k) es.toList 0 = some none ∧ MapKept.Stamped (es.push ⟨.int q k, enc v, clock⟩) (clock + 1) ∧
      (es.push ⟨.int q k, enc v, clock⟩).toList.map (fun e => (e.key, e.val)) = (mput m k v).map fun p => (Value.int q p.1, enc p.2)) ∨
    ∃ j u e, (mget m k).isSome = true ∧ Instr.findNow (.int q) (.int q k) es.toList 0 = some (some (j, u)) ∧ es[j]? = some e ∧ e.key = .int q k ∧
      MapKept.Stamped (es.modify j fun e => { e with key := .int q k, val := enc v }) clock ∧
      (es.modify j fun e => { e with key := .int q k, val := enc v }).toList.map (fun e => (e.key, e.val)) = ((mput m k v).map fun p => (Value.int q p.1, enc p.2)) ∧
      (es.modify j fun e => { e with key := .int q k, val := enc v }).toList.map (·.born) = es.toList.map (·.born) := by
  rcases find_map hm hn k with ⟨h1, h2, h3⟩ | ⟨j, e, u, h1, h2, h3, h4, h5, h6⟩
  · refine .inl ⟨h2, h1, MapKept.stamped_push hs h3, ?_⟩
    unfold mput; rw [if_neg (by simp [h2])]
    simp [hm]
  · have hj : es[j]? = some e := by rw [← Array.getElem?_toList]; exact h2
    refine .inr ⟨j, enc u, e, by simp [h5], h1, hj, h3, MapKept.stamped_modify hs j _ (fun _ _ => rfl) (fun e' _ he' => ?_), ?_, ?_⟩
    · rw [hj] at he'; injection he' with he'; subst he'; exact h3.symm
    · unfold mput; rw [if_pos (by simp [h5])]
      apply List.ext_getElem?
      intro i
      have hi := congrArg (fun l => l[i]?) hm
      simp only [List.getElem?_map, Array.getElem?_toList, Array.getElem?_modify] at hi ⊢
      by_cases hij : j = i
      · subst hij
        simp [hj, h6]
      · simp only [hij, if_false]
        rw [hi]
        cases hmi : m[i]? with
        | none => simp
        | some p =>
          have hne : ¬ p.1 = k := by
            rintro rfl
            have a1 : (mkeys m)[i]? = some p.1 := by simp [mkeys, hmi]
            have a2 : (mkeys m)[j]? = some p.1 := by simp [mkeys, h6]
            obtain ⟨b1, c1⟩ := List.getElem?_eq_some_iff.1 a1
            obtain ⟨b2, c2⟩ := List.getElem?_eq_some_iff.1 a2
            exact hij ((List.getElem_inj hn).1 (c2.trans c1.symm))
          simp [hne]
    · apply List.ext_getElem?
      intro i
      simp only [List.getElem?_map, Array.getElem?_toList, Array.getElem?_modify]
      by_cases hij : j = i
      · subst hij; simp [hj]
      · simp [hij]

theorem keyStays (q : IntKind) (k : Int) (w : World) : (Instr.keyThatStays (.int q k) (.int q k)).run P w = .ok (.int q k) w := by
  have : Instr.sameBits 10000 (.int q k) (.int q k) = true := by simp [Instr.sameBits]
  simp [Instr.keyThatStays, this]

theorem grown_setBlock {w : World} {b : Nat} {o o' : Obj} (hb : w.heap[b]? = some o) : w.grownBy (setBlock w b o') (some b) := by
  refine ⟨rfl, rfl, rfl, by simp [setBlock], fun k _ hk => ?_⟩
  exact (MapKept.heap_set hb).2 k (fun e => hk (by rw [e]))

theorem MapOf.update {w : World} {b : Nat} {q : IntKind} {enc : α → Value} {m : List (Int × α)} (h : MapOf w b q enc m) {t K E : TypeId} (ht : P.underlying t = some (.map K E)) (hK : P.underlying K = some (.int q)) (k : Int) (v : α) :
    ∃ w', (Instr.mapUpdate t (.map (some b)) (.int q k) (enc v)).run P w = .ok () w' ∧ MapOf w' b q enc (mput m k v) ∧ w.grownBy w' (some b) ∧ w'.heap.size = w.heap.size := by
  have hn := h.nodup
  obtain ⟨es, clock, hb, hs, hm⟩ := h
  have hck := MapKept.run_checkKey (P := P) (w := w) (kt := K) (d := .int q) (k := .int q k) hK rfl false 9999
  rcases put_entries hs hm hn k v with ⟨h0, h1, h2, h3⟩ | ⟨j, u, e, h0, h1, h2, h3, h4, h5, _⟩
  · refine ⟨setBlock w b (.map (es.push ⟨.int q k, enc v, clock⟩) (clock + 1)), ?_, ⟨_, _, (MapKept.heap_set hb).1, h2, h3⟩, grown_setBlock hb, by simp [setBlock]⟩
    simp [Instr.mapUpdate, run_underlying ht, MapKept.run_getObj_map hb, hck, MapKept.run_findKey hK h1, MapKept.run_setObj_map _ hb, Result.andThen, setBlock]
  · refine ⟨setBlock w b (.map (es.modify j fun e => { e with key := .int q k, val := enc v }) clock), ?_, ⟨_, _, (MapKept.heap_set hb).1, h4, h5⟩, grown_setBlock hb, by simp [setBlock]⟩
    simp [Instr.mapUpdate, run_underlying ht, MapKept.run_getObj_map hb, hck, MapKept.run_findKey hK h1, h2, h3, keyStays, MapKept.run_setObj_map _ hb, Result.andThen, setBlock]

/-! Going through. 'left': the keys that are still to come. -/
def Iter (w : World) (b r : Nat) (q : IntKind) (enc : α → Value) (m : List (Int × α)) (left : List Int) : Prop :=
  ∃ es clock since seen c0, w.heap[b]? = some (.map es clock) ∧ MapKept.Stamped es clock ∧ es.toList.map (fun e => (e.key, e.val)) = (m.map fun p => (Value.int q p.1, enc p.2)) ∧
    w.heap[r]? = some (.mapIter (some b) since seen c0) ∧ (∀ x ∈ es.toList, x.born < since) ∧ since ≤ c0 ∧ since ≤ clock ∧
    (es.toList.filter fun e => !seen.contains e.born).map (·.key) = left.map (Value.int q)
theorem Iter.map {w : World} {b r : Nat} {q : IntKind} {enc : α → Value} {m : List (Int × α)} {left : List Int} (h : Iter w b r q enc m left) : MapOf w b q enc m := by
  obtain ⟨es, clock, since, seen, c0, h1, h2, h3, _⟩ := h
  exact ⟨es, clock, h1, h2, h3⟩
theorem Iter.lt {w : World} {b r : Nat} {q : IntKind} {enc : α → Value} {m : List (Int × α)} {left : List Int} (h : Iter w b r q enc m left) : r < w.heap.size ∧ b ≠ r := by
  obtain ⟨es, clock, since, seen, c0, h1, h2, h3, h4, _⟩ := h
  exact ⟨(Array.getElem?_eq_some_iff.1 h4).1, by rintro rfl; rw [h1] at h4; cases h4⟩
theorem Iter.blocks {w w' : World} {b r : Nat} {q : IntKind} {enc : α → Value} {m : List (Int × α)} {left : List Int} (h : Iter w b r q enc m left) (e1 : w'.heap[b]? = w.heap[b]?) (e2 : w'.heap[r]? = w.heap[r]?) : Iter w' b r q enc m left := by
  obtain ⟨es, clock, since, seen, c0, h1, h2, h3, h4, h5⟩ := h
  exact ⟨es, clock, since, seen, c0, e1.trans h1, h2, h3, e2.trans h4, h5⟩
theorem Iter.alloc {w : World} {b r : Nat} {q : IntKind} {enc : α → Value} {m : List (Int × α)} {left : List Int} (h : Iter w b r q enc m left) (o : Obj) : Iter (w.alloc o) b r q enc m left :=
  h.blocks (Below.heap_alloc w o b h.map.lt) (Below.heap_alloc w o r h.lt.1)
theorem Iter.grown {w w' : World} {b r : Nat} {row : Option Nat} {q : IntKind} {enc : α → Value} {m : List (Int × α)} {left : List Int} (h : Iter w b r q enc m left) (hg : w.grownBy w' row) (hb : some b ≠ row) (hr : some r ≠ row) : Iter w' b r q enc m left :=
  h.blocks (hg.block b h.map.lt hb) (hg.block r h.lt.1 hr)
theorem MapOf.range {w : World} {b : Nat} {q : IntKind} {enc : α → Value} {m : List (Int × α)} (h : MapOf w b q enc m) {t K E : TypeId} (ht : P.underlying t = some (.map K E)) :
    ∃ w', (Instr.range t (.map (some b))).run P w = .ok (.pointer (some ⟨w.heap.size, 0, none⟩)) w' ∧ Iter w' b w.heap.size q enc m (mkeys m) ∧ w.grownBy w' none ∧ w'.heap.size = w.heap.size + 1 := by
  have hlt := h.lt
  obtain ⟨es, clock, hb, hs, hm⟩ := h
  refine ⟨w.alloc (.mapIter (some b) clock #[] clock), run_range_map w t K E b es clock ht hb, ⟨es, clock, clock, #[], clock, ?_, hs, hm, heap_alloc_new w _, hs.1, Nat.le_refl _, Nat.le_refl _, ?_⟩, World.grownBy_alloc _ _ _, by simp⟩
  · rw [Below.heap_alloc _ _ _ hlt]; exact hb
  · rw [← keys_of_map hm, List.filter_eq_self.2]; simp
theorem Iter.next {w : World} {b r : Nat} {q : IntKind} {enc : α → Value} {m : List (Int × α)} {left : List Int} (h : Iter w b r q enc m left) (ty : TypeId) :
    (left = [] ∧ (Instr.next (.pointer (some ⟨r, 0, none⟩)) false ty).run P w = .ok (.tuple #[.bool false]) w) ∨
    ∃ k v w', k ∈ left ∧ left.Nodup ∧ mget m k = some v ∧ (Instr.next (.pointer (some ⟨r, 0, none⟩)) false ty).run P w = .ok (.tuple #[.bool true, .int q k, enc v]) w' ∧ Iter w' b r q enc m (left.erase k) ∧
      w.grownBy w' (some r) ∧ w'.heap.size = w.heap.size ∧ (Instr.entry (.pointer (some ⟨r, 0, none⟩))).run P w' = .ok (.tuple #[.int q k, enc v]) w' := by
  have hn := h.map.nodup
  have hbr := h.lt.2
  obtain ⟨es, clock, since, seen, c0, hb, hs, hm, hr, hold, hsc, hcl, hleft⟩ := h
  have hleft' : (leftOf es seen).toList.map (·.key) = left.map (Value.int q) := by rw [← hleft]; simp [leftOf]
  have hln : left.Nodup := by
    have h3 : (es.toList.map (·.key)).Nodup := hs.2.2
    have h4 : ((es.toList.filter fun e => !seen.contains e.born).map (·.key)).Nodup := (List.filter_sublist.map _).nodup h3
    rw [hleft] at h4
    exact nodup_of_map h4
  rcases run_next_at (P := P) w ty r b since c0 seen es clock hr hb hold hsc with ⟨h1, h2⟩ | ⟨e, he, w1, hw1, hrun⟩
  · refine .inl ⟨?_, h2⟩
    have : left.length = 0 := by have := congrArg List.length hleft'; simp at this; omega
    exact List.eq_nil_of_length_eq_zero this
  · have hmem := mem_left he
    have hb1 : w1.heap = w.heap := by rcases hw1 with rfl | rfl <;> rfl
    have h1r : w1.heap[r]? = some (.mapIter (some b) since seen c0) := by rw [hb1]; exact hr
    have hkey : e.key ∈ left.map (Value.int q) := by rw [← hleft']; exact List.mem_map.2 ⟨e, he, rfl⟩
    obtain ⟨k, hk, hke⟩ := List.mem_map.1 hkey
    have hpair : (e.key, e.val) ∈ m.map fun p => (Value.int q p.1, enc p.2) := by rw [← hm]; exact List.mem_map.2 ⟨e, hmem.1, rfl⟩
    obtain ⟨⟨k', v⟩, hp, hpe⟩ := List.mem_map.1 hpair
    simp only [Prod.mk.injEq] at hpe
    have hkk : k' = k := by have := hpe.1.trans hke.symm; injection this
    subst hkk
    have hblk : (setBlock w1 r (.mapIter (some b) since (seen.push e.born) clock)).heap[b]? = some (.map es clock) := by
      rw [show (setBlock w1 r (.mapIter (some b) since (seen.push e.born) clock)).heap[b]? = w1.heap[b]? from (MapKept.heap_set h1r).2 b hbr, hb1]; exact hb
    have hitr : (setBlock w1 r (.mapIter (some b) since (seen.push e.born) clock)).heap[r]? = some (.mapIter (some b) since (seen.push e.born) clock) := (MapKept.heap_set h1r).1
    refine .inr ⟨k', v, _, hk, hln, mget_of_mem hn hp, by rw [hrun, ← hpe.1, ← hpe.2], ⟨es, clock, since, seen.push e.born, clock, hblk, hs, hm, hitr, hold, hcl, hcl, ?_⟩, ?_, by simp [setBlock, hb1], ?_⟩
    · have e1 : (es.toList.filter fun x => !(seen.push e.born).contains x.born) = (es.toList.filter fun x => !seen.contains x.born).filter fun x => !(x.born == e.born) := by
        rw [List.filter_filter]
        refine List.filter_congr fun x _ => ?_
        rw [contains_push]
        cases seen.contains x.born <;> cases (x.born == e.born) <;> rfl
      rw [e1]
      have hsub : (es.toList.filter fun x => !seen.contains x.born).Sublist es.toList := List.filter_sublist
      refine erase_map ((hsub.map _).nodup hs.2.1) ((hsub.map _).nodup hs.2.2) ?_ hleft hpe.1.symm
      simp only [List.mem_filter]
      exact ⟨hmem.1, by simpa using hmem.2⟩
    · have h0 : w1.grownBy (setBlock w1 r (.mapIter (some b) since (seen.push e.born) clock)) (some r) := grown_setBlock h1r
      rcases hw1 with rfl | rfl
      · exact h0
      · exact ⟨h0.os, h0.tape, h0.output, h0.size, h0.block⟩
    · have := run_entry_at (P := P) _ r b since seen es clock e hitr hblk hmem.1 hs.2.1
      rw [this, ← hpe.1, ← hpe.2]
/-- A store at a key that is there, while the map is gone through. -/
theorem Iter.update {w : World} {b r : Nat} {q : IntKind} {enc : α → Value} {m : List (Int × α)} {left : List Int} (h : Iter w b r q enc m left) {t K E : TypeId} (ht : P.underlying t = some (.map K E)) (hK : P.underlying K = some (.int q)) {k : Int} (hk : k ∈ mkeys m) (v : α) :
    ∃ w', (Instr.mapUpdate t (.map (some b)) (.int q k) (enc v)).run P w = .ok () w' ∧ Iter w' b r q enc (mput m k v) left ∧ w.grownBy w' (some b) ∧ w'.heap.size = w.heap.size := by
  have hn := h.map.nodup
  have hbr := h.lt.2
  obtain ⟨es, clock, since, seen, c0, hb, hs, hm, hr, hold, hsc, hcl, hleft⟩ := h
  have hck := MapKept.run_checkKey (P := P) (w := w) (kt := K) (d := .int q) (k := .int q k) hK rfl false 9999
  rcases put_entries hs hm hn k v with ⟨h0, _⟩ | ⟨j, u, e, h0, h1, h2, h3, h4, h5, h6⟩
  · exact absurd hk (mget_none.1 h0)
  · have hkeys : (es.modify j fun e => { e with key := .int q k, val := enc v }).toList.map (·.key) = es.toList.map (·.key) := by
      rw [keys_of_map h5, keys_of_map hm, mkeys_mput, if_pos hk]
    refine ⟨setBlock w b (.map (es.modify j fun e => { e with key := .int q k, val := enc v }) clock), ?_,
      ⟨_, _, since, seen, c0, (MapKept.heap_set hb).1, h4, h5, ((MapKept.heap_set hb).2 r (Ne.symm hbr)).trans hr, ?_, hsc, hcl, ?_⟩, grown_setBlock hb, by simp [setBlock]⟩
    · simp [Instr.mapUpdate, run_underlying ht, MapKept.run_getObj_map hb, hck, MapKept.run_findKey hK h1, h2, h3, keyStays, MapKept.run_setObj_map _ hb, Result.andThen, setBlock]
    · intro x hx
      have : x.born ∈ es.toList.map (·.born) := by rw [← h6]; exact List.mem_map.2 ⟨x, hx, rfl⟩
      obtain ⟨y, hy, e1⟩ := List.mem_map.1 this
      rw [← e1]; exact hold y hy
    · rw [← hleft]
      -- the same entries are left: borns and keys stand where they stood
      have aux : ∀ (l l' : List MapEntry), l'.map (·.born) = l.map (·.born) → l'.map (·.key) = l.map (·.key) → (l'.filter fun e => !seen.contains e.born).map (·.key) = (l.filter fun e => !seen.contains e.born).map (·.key) := by
        intro l
        induction l with
        | nil => intro l' a _; cases l' with
          | nil => rfl
          | cons x l' => simp at a
        | cons y l ih =>
          intro l' a b
          cases l' with
          | nil => simp at a
          | cons x l' =>
            simp only [List.map_cons, List.cons.injEq] at a b
            simp only [List.filter_cons, a.1]
            split
            · simp only [List.map_cons, b.1, ih l' a.2 b.2]
            · exact ih l' a.2 b.2
      exact aux _ _ h6 hkeys

/-! For the walk. -/
variable {ops : Array Oper} {rest : List Oper} {o : Oper} {a : Act} {Q : Exit → Act → World → Prop}
theorem wpList_mlook {w : World} (hg : o.guard = none) (x k : Operand) (t K E : TypeId) (hop : o.op = Op.lookup t x k false) (ht : P.underlying t = some (.map K E)) {q : IntKind} (hK : P.underlying K = some (.int q))
    {z : Value} (hz : ∀ W, (zeroValue E).run P W = .ok z W) {enc : α → Value} {b : Nat} {m : List (Int × α)} (key : Int) (hm : MapOf w b q enc m) (hx : a.eval x = .map (some b)) (hk : a.eval k = .int q key)
    (h : wpList P ops Q rest (a.put o.dst (((mget m key).map enc).getD z)) w) : wpList P ops Q (o :: rest) a w := by
  refine wpList_plain hg fun K' hK' => ?_
  have hrun := hm.lookup ht hK (hz w) key
  unfold Oper.wp
  simp [execOp, hop, hx, hk, hrun, Result.andThen]
  exact hK' _ _ h
theorem wpList_mlookOk {w : World} (hg : o.guard = none) (x k : Operand) (t K E : TypeId) (hop : o.op = Op.lookup t x k true) (ht : P.underlying t = some (.map K E)) {q : IntKind} (hK : P.underlying K = some (.int q))
    {z : Value} (hz : ∀ W, (zeroValue E).run P W = .ok z W) {enc : α → Value} {b : Nat} {m : List (Int × α)} (key : Int) (hm : MapOf w b q enc m) (hx : a.eval x = .map (some b)) (hk : a.eval k = .int q key)
    (h : wpList P ops Q rest (a.put o.dst (.tuple #[((mget m key).map enc).getD z, .bool (mget m key).isSome])) w) : wpList P ops Q (o :: rest) a w := by
  refine wpList_plain hg fun K' hK' => ?_
  have hrun := hm.lookupOk ht hK (hz w) key
  unfold Oper.wp
  simp [execOp, hop, hx, hk, hrun, Result.andThen]
  exact hK' _ _ h
theorem wpList_mput {w : World} (hg : o.guard = none) (x k v : Operand) (t K E : TypeId) (hop : o.op = Op.mapUpdate t x k v) (ht : P.underlying t = some (.map K E)) {q : IntKind} (hK : P.underlying K = some (.int q))
    {enc : α → Value} {b : Nat} {m : List (Int × α)} (key : Int) (val : α) (hm : MapOf w b q enc m) (hx : a.eval x = .map (some b)) (hk : a.eval k = .int q key) (hv : a.eval v = enc val)
    (h : ∀ w', MapOf w' b q enc (mput m key val) → w.grownBy w' (some b) → w'.heap.size = w.heap.size → wpList P ops Q rest (a.put o.dst undef) w') : wpList P ops Q (o :: rest) a w := by
  refine wpList_plain hg fun K' hK' => ?_
  obtain ⟨w', hrun, h1, h2, h3⟩ := hm.update ht hK key val
  unfold Oper.wp
  simp [execOp, hop, hx, hk, hv, hrun, Result.andThen]
  exact hK' _ _ (h w' h1 h2 h3)
theorem wpList_mrange {w : World} (hg : o.guard = none) (x : Operand) (t K E : TypeId) (hop : o.op = Op.range t x) (ht : P.underlying t = some (.map K E)) {q : IntKind}
    {enc : α → Value} {b : Nat} {m : List (Int × α)} (hm : MapOf w b q enc m) (hx : a.eval x = .map (some b))
    (h : ∀ w', Iter w' b w.heap.size q enc m (mkeys m) → w.grownBy w' none → w'.heap.size = w.heap.size + 1 → wpList P ops Q rest (a.put o.dst (.pointer (some ⟨w.heap.size, 0, none⟩))) w') : wpList P ops Q (o :: rest) a w := by
  refine wpList_plain hg fun K' hK' => ?_
  obtain ⟨w', hrun, h1, h2, h3⟩ := hm.range (P := P) ht
  unfold Oper.wp
  simp [execOp, hop, hx, hrun, Result.andThen]
  exact hK' _ _ (h w' h1 h2 h3)
theorem wpList_mnext {w : World} (hg : o.guard = none) (it : Operand) (hop : o.op = Op.next it false) {q : IntKind} {enc : α → Value} {b r : Nat} {m : List (Int × α)} {left : List Int} (hi : Iter w b r q enc m left) (hit : a.eval it = .pointer (some ⟨r, 0, none⟩))
    (hDone : left = [] → wpList P ops Q rest (a.put o.dst (.tuple #[.bool false])) w)
    (hMore : ∀ k v w', k ∈ left → left.Nodup → mget m k = some v → Iter w' b r q enc m (left.erase k) → w.grownBy w' (some r) → w'.heap.size = w.heap.size →
      (Instr.entry (.pointer (some ⟨r, 0, none⟩))).run P w' = .ok (.tuple #[.int q k, enc v]) w' → wpList P ops Q rest (a.put o.dst (.tuple #[.bool true, .int q k, enc v])) w') : wpList P ops Q (o :: rest) a w := by
  refine wpList_plain hg fun K' hK' => ?_
  unfold Oper.wp
  rcases hi.next (P := P) o.type with ⟨h0, hrun⟩ | ⟨k, v, w', h1, h2, h3, hrun, h4, h5, h6, h7⟩
  · simp [execOp, hop, hit, hrun, Result.andThen]
    exact hK' _ _ (hDone h0)
  · simp [execOp, hop, hit, hrun, Result.andThen]
    exact hK' _ _ (hMore k v w' h1 h2 h3 h4 h5 h6 h7)
theorem wpList_mputIter {w : World} (hg : o.guard = none) (x k v : Operand) (t K E : TypeId) (hop : o.op = Op.mapUpdate t x k v) (ht : P.underlying t = some (.map K E)) {q : IntKind} (hK : P.underlying K = some (.int q))
    {enc : α → Value} {b r : Nat} {m : List (Int × α)} {left : List Int} (key : Int) (val : α) (hi : Iter w b r q enc m left) (hkey : key ∈ mkeys m) (hx : a.eval x = .map (some b)) (hk : a.eval k = .int q key) (hv : a.eval v = enc val)
    (h : ∀ w', Iter w' b r q enc (mput m key val) left → w.grownBy w' (some b) → w'.heap.size = w.heap.size → wpList P ops Q rest (a.put o.dst undef) w') : wpList P ops Q (o :: rest) a w := by
  refine wpList_plain hg fun K' hK' => ?_
  obtain ⟨w', hrun, h1, h2, h3⟩ := hi.update ht hK hkey val
  unfold Oper.wp
  simp [execOp, hop, hx, hk, hv, hrun, Result.andThen]
  exact hK' _ _ (h w' h1 h2 h3)
end

/-! A map over known keys, as a function. -/
section
variable {α : Type}
def mapF (vs : List Int) (f : Int → α) : List (Int × α) := vs.map fun v => (v, f v)
theorem mkeys_mapF (vs : List Int) (f : Int → α) : mkeys (mapF vs f) = vs := by simp [mkeys, mapF, Function.comp_def]
theorem mget_mapF (vs : List Int) (f : Int → α) (x : Int) : mget (mapF vs f) x = if x ∈ vs then some (f x) else none := by
  induction vs with
  | nil => simp [mapF, mget]
  | cons k vs ih =>
    unfold mget mapF at ih ⊢
    simp only [List.map_cons, List.find?_cons, List.mem_cons]
    by_cases e : k = x
    · subst e; simp
    · have h1 : (k == x) = false := by simp [e]
      simp only [h1]
      rw [ih]
      simp [Ne.symm e]
theorem mput_mapF {vs : List Int} (f : Int → α) {k : Int} (hk : k ∈ vs) (u : α) : mput (mapF vs f) k u = mapF vs fun x => if x = k then u else f x := by
  unfold mput
  rw [mget_mapF, if_pos hk]
  simp only [Option.isSome_some, if_true]
  unfold mapF
  rw [List.map_map]
  refine List.map_congr_left fun x _ => ?_
  show (if x == k then (k, u) else (x, f x)) = (x, if x = k then u else f x)
  by_cases e : x = k
  · subst e; simp
  · simp [e]
theorem mput_mapF_new {vs : List Int} (f : Int → α) {k : Int} (hk : k ∉ vs) : mput (mapF vs f) k (f k) = mapF (vs ++ [k]) f := by
  unfold mput
  rw [mget_mapF, if_neg hk]
  simp [mapF]
theorem mapF_congr {vs : List Int} {f g : Int → α} (h : ∀ x ∈ vs, f x = g x) : mapF vs f = mapF vs g := List.map_congr_left fun x hx => by rw [h x hx]
end

/-! Sets: maps to bool that hold true alone. -/
def hasB (vs : List Int) (x : Int) : Bool := decide (x ∈ vs)
def setM (ks : List Int) : List (Int × Bool) := ks.map fun k => (k, true)
def addK (ks : List Int) (k : Int) : List Int := if k ∈ ks then ks else ks ++ [k]
theorem mkeys_setM (ks : List Int) : mkeys (setM ks) = ks := by simp [mkeys, setM, Function.comp_def]
theorem mget_setM (ks : List Int) (x : Int) : mget (setM ks) x = if x ∈ ks then some true else none := by
  induction ks with
  | nil => simp [setM, mget]
  | cons k ks ih =>
    unfold mget setM at ih ⊢
    simp only [List.map_cons, List.find?_cons, List.mem_cons]
    by_cases e : k = x
    · subst e; simp
    · have h1 : (k == x) = false := by simp [e]
      simp only [h1]
      rw [ih]
      simp [Ne.symm e]
theorem mput_setM (ks : List Int) (k : Int) : mput (setM ks) k true = setM (addK ks k) := by
  unfold mput addK
  rw [mget_setM]
  by_cases h : k ∈ ks
  · rw [if_pos h, if_pos h]
    simp only [Option.isSome_some, if_true]
    unfold setM
    rw [List.map_map]
    refine List.map_congr_left fun x _ => ?_
    show (if x == k then (k, true) else (x, true)) = (x, true)
    split
    · rename_i e; simp at e; rw [e]
    · rfl
  · rw [if_neg h, if_neg h]
    simp [setM]
theorem mem_addK {ks : List Int} {k x : Int} : x ∈ addK ks k ↔ x ∈ ks ∨ x = k := by
  unfold addK; split
  · rename_i h
    constructor
    · exact .inl
    · rintro (h1 | rfl)
      · exact h1
      · exact h
  · simp
theorem len_addK (ks : List Int) (k : Int) : ks.length ≤ (addK ks k).length ∧ (addK ks k).length ≤ ks.length + 1 ∧ (k ∉ ks → (addK ks k).length = ks.length + 1) := by
  unfold addK; split
  · rename_i h; exact ⟨Nat.le_refl _, by omega, fun hn => absurd h hn⟩
  · simp
def IsSet (w : World) (b : Nat) (q : IntKind) (ks : List Int) : Prop := MapOf w b q Value.bool (setM ks)
theorem IsSet.nodup {w : World} {b : Nat} {q : IntKind} {ks : List Int} (h : IsSet w b q ks) : ks.Nodup := by have := MapOf.nodup h; rwa [mkeys_setM] at this
theorem setM_none : setM [] = [] := rfl
section
variable {P : Program} {ops : Array Oper} {rest : List Oper} {o : Oper} {a : Act} {Q : Exit → Act → World → Prop}
theorem wpList_slook {w : World} (hg : o.guard = none) (x k : Operand) (t K E : TypeId) (hop : o.op = Op.lookup t x k false) (ht : P.underlying t = some (.map K E)) {q : IntKind} (hK : P.underlying K = some (.int q))
    (hz : ∀ W, (zeroValue E).run P W = .ok (.bool false) W) {b : Nat} {ks : List Int} (key : Int) (hm : IsSet w b q ks) (hx : a.eval x = .map (some b)) (hk : a.eval k = .int q key)
    (h : wpList P ops Q rest (a.put o.dst (.bool (hasB ks key))) w) : wpList P ops Q (o :: rest) a w := by
  refine wpList_mlook hg x k t K E hop ht hK hz key hm hx hk ?_
  rw [mget_setM]
  unfold hasB at h
  by_cases hk : key ∈ ks
  · rw [if_pos hk]; simpa [hk] using h
  · rw [if_neg hk]; simpa [hk] using h
theorem wpList_sput {w : World} (hg : o.guard = none) (x k v : Operand) (t K E : TypeId) (hop : o.op = Op.mapUpdate t x k v) (ht : P.underlying t = some (.map K E)) {q : IntKind} (hK : P.underlying K = some (.int q))
    {b : Nat} {ks : List Int} (key : Int) (hm : IsSet w b q ks) (hx : a.eval x = .map (some b)) (hk : a.eval k = .int q key) (hv : a.eval v = .bool true)
    (h : ∀ w', IsSet w' b q (addK ks key) → w.grownBy w' (some b) → w'.heap.size = w.heap.size → wpList P ops Q rest (a.put o.dst undef) w') : wpList P ops Q (o :: rest) a w :=
  wpList_mput hg x k v t K E hop ht hK key true hm hx hk hv fun w' h1 h2 h3 => h w' (by unfold IsSet; rw [← mput_setM]; exact h1) h2 h3
theorem wpList_sins {w : World} (hg : o.guard = none) (x k v : Operand) (t K E : TypeId) (hop : o.op = Op.insert t x k v) (ht : P.underlying t = some (.map K E)) {q : IntKind} (hK : P.underlying K = some (.int q))
    {b : Nat} {ks : List Int} (key : Int) (hm : IsSet w b q ks) (hx : a.eval x = .map (some b)) (hk : a.eval k = .int q key) (hv : a.eval v = .bool true)
    (h : ∀ w', IsSet w' b q (addK ks key) → w.grownBy w' (some b) → w'.heap.size = w.heap.size → wpList P ops Q rest (a.put o.dst undef) w') : wpList P ops Q (o :: rest) a w := by
  refine wpList_plain hg fun K' hK' => ?_
  obtain ⟨w', hrun, h1, h2, h3⟩ := MapOf.update hm ht hK key true
  unfold Oper.wp
  simp [execOp, hop, hx, hk, hv, hrun, Result.andThen]
  exact hK' _ _ (h w' (by unfold IsSet; rw [← mput_setM]; exact h1) h2 h3)
end
end Go.Proofs.Ytklmckbpbloonaa

namespace Go.Proofs.Ytklmckbpbloonaa
open Go.RowKit

theorem hasB_true {vs : List Int} {x : Int} {k : Nat} (h : vs[k]? = some x) : hasB vs x = true := by simp [hasB, List.mem_of_getElem? h]
theorem hasB_false {vs : List Int} {x : Int} (h : ∀ j, j < vs.length → vs[j]? ≠ some x) : hasB vs x = false := by
  simp only [hasB, decide_eq_false_iff_not]
  intro hm
  obtain ⟨j, hj, e⟩ := List.mem_iff_getElem.1 hm
  exact h j hj (by rw [List.getElem?_eq_getElem hj, e])

set_option maxHeartbeats 400000 in
theorem has_any (B : Nat) (A : Option Addr) (n c : Nat) (xs : List Int) (v1 : Value) (x : Int) (w : World) (h : RdU w B A n c xs) (hB : B ≤ w.heap.size) :
    Calls Try.prog 57 #[.agg #[.slice A n c, v1], .int .u32 x] w fun e w' => e = .returned (.bool (hasB xs x)) ∧ Below w.heap.size w w' := by
  have HL := Lib.hid h.len
  obtain ⟨hn, hc⟩ := h.bd
  have HB := Lib.hid ((Below.refl w.heap.size w).alloc (Nat.le_refl _) (.cells #[.slice A n c, v1] 25))
  have hr := h.below (HB.out.mono hB)
  go_enter Try.func57, Try.ntmps57
  go_wp2
  go_loop [10] (fun i => ∃ k : Nat, k ≤ n ∧ i = .int .i64 k ∧ Hid (∀ j, j < k → xs[j]? ≠ some x)) (fun i => n - (intOf i).toNat)
  case atStart => exact ⟨0, Nat.zero_le _, rfl, fun j hj => absurd hj (by omega)⟩
  case round =>
    obtain ⟨k, hk, rfl, HJ⟩ := hrel
    by_cases hlt : k < n
    · obtain ⟨ad, y, rfl, _, hy, _, hcell⟩ := hr.at_ hlt
      have HY := Lib.hid hy
      clear hy
      by_cases he : y = x
      · subst he
        go_wp2
        go_ret
        exact ⟨ret_bool (hasB_true HY.out).symm, HB.out⟩
      · have he' : (y == x) = false := by simpa using he
        clear he
        go_wp2
        go_round
        case rel =>
          refine ⟨k + 1, by omega, by go_num, fun j hj => ?_⟩
          by_cases e : j = k
          · subst e; rw [HY.out]; intro e; simp at e; simp [e] at he'
          · exact HJ.out j (by omega)
        case measure => simp [intOf]; omega
    · go_wp2
      go_ret
      exact ⟨ret_bool (hasB_false fun j hj => HJ.out j (by have := HL.out; omega)).symm, HB.out⟩

set_option maxHeartbeats 400000 in
theorem rfind_any (B : Nat) (A : Option Addr) (n c : Nat) (xs : List Int) (x : Int) (w : World) (h : RdU w B A n c xs) :
    Calls Try.prog 30 #[.slice A n c, .int .u32 x] w fun e w' => e = .returned (.int .i64 (idx xs x)) ∧ w = w' := by
  have HL := Lib.hid h.len
  obtain ⟨hn, hc⟩ := h.bd
  go_enter Try.func30, Try.ntmps30
  go_wp2
  go_loop [9] (fun i => ∃ k : Nat, k ≤ n ∧ i = .int .i64 k ∧ Hid (∀ j, j < k → xs[j]? ≠ some x)) (fun i => n - (intOf i).toNat)
  case atStart => exact ⟨0, Nat.zero_le _, rfl, fun j hj => absurd hj (by omega)⟩
  case round =>
    obtain ⟨k, hk, rfl, HJ⟩ := hrel
    by_cases hlt : k < n
    · obtain ⟨ad, y, rfl, _, hy, _, hcell⟩ := h.at_ hlt
      have HY := Lib.hid hy
      clear hy
      by_cases he : y = x
      · subst he
        go_wp2
        go_ret
        exact ⟨ret_int (idx_hit HJ.out HY.out).symm, rfl⟩
      · have he' : (y == x) = false := by simpa using he
        clear he
        go_wp2
        go_round
        case rel =>
          refine ⟨k + 1, by omega, by go_num, fun j hj => ?_⟩
          by_cases e : j = k
          · subst e; rw [HY.out]; intro e; simp at e; simp [e] at he'
          · exact HJ.out j (by omega)
        case measure => simp [intOf]; omega
    · go_wp2
      go_ret
      exact ⟨ret_int (idx_miss fun j hj => HJ.out j (by have := HL.out; omega)).symm, rfl⟩

/-- Two lists, compared from the front. -/
def sameB (xs ys : List Int) : Bool := decide (xs = ys)
theorem sameB_true {xs ys : List Int} (hl : xs.length = ys.length) (h : ∀ j, j < xs.length → xs[j]? = ys[j]?) : sameB xs ys = true := by
  simp only [sameB, decide_eq_true_eq]
  refine List.ext_getElem? fun j => ?_
  by_cases hj : j < xs.length
  · exact h j hj
  · rw [List.getElem?_eq_none (by omega), List.getElem?_eq_none (by omega)]
theorem sameB_len {xs ys : List Int} (hl : xs.length ≠ ys.length) : sameB xs ys = false := by
  simp only [sameB, decide_eq_false_iff_not]; intro e; exact hl (by rw [e])
theorem sameB_at {xs ys : List Int} {k : Nat} (h : xs[k]? ≠ ys[k]?) : sameB xs ys = false := by
  simp only [sameB, decide_eq_false_iff_not]; intro e; exact h (by rw [e])

set_option maxHeartbeats 400000 in
theorem rsame_any (B : Nat) (A A' : Option Addr) (n c n' c' : Nat) (xs ys : List Int) (w : World) (h : RdU w B A n c xs) (h' : RdU w B A' n' c' ys) :
    Calls Try.prog 22 #[.slice A n c, .slice A' n' c'] w fun e w' => e = .returned (.bool (sameB xs ys)) ∧ ∃ q, w' = w.drewN q := by
  have HL := Lib.hid h.len
  have HL' := Lib.hid h'.len
  obtain ⟨hn, hc⟩ := h.bd
  obtain ⟨hn', hc'⟩ := h'.bd
  by_cases hnn : n = n'
  · have hnn' : ((n : Int) != n') = false := by simp [hnn]
    have HN := Lib.hid hnn
    clear hnn
    go_enter Try.func22, Try.ntmps22
    go_wp2
    go_loopw [13] (fun i wr => ∃ k q : Nat, k ≤ n ∧ i = .int .i64 k ∧ Hid (∀ j, j < k → xs[j]? = ys[j]?) ∧ wr = w.drewN q) (fun i _ => n - (intOf i).toNat)
    case atStart => exact ⟨0, 0, Nat.zero_le _, rfl, fun j hj => absurd hj (by omega), rfl⟩
    case round =>
      obtain ⟨k, q, hk, rfl, HJ, rfl⟩ := hrel
      by_cases hlt : k < n
      · obtain ⟨ad, x, rfl, _, hx, _, hcell⟩ := h.at_ hlt
        obtain ⟨ad', y, rfl, _, hy, _, hcell'⟩ := h'.at_ (k := k) (by have := HN.out; omega)
        have HX := Lib.hid hx
        have HY := Lib.hid hy
        have b1 : (k : Int) < n := by omega
        have b2 : (k : Int) < n' := by have := HN.out; omega
        clear hx hy
        by_cases he : x = y
        · have he' : (x != y) = false := by simp [he]
          have HE := Lib.hid he
          clear he
          go_wp2_with fail
          go_quiet (fail)
          go_wp2
          go_roundw
          case rel =>
            refine ⟨k + 1, _, by omega, by go_num, fun j hj => ?_, rfl⟩
            by_cases e : j = k
            · subst e; rw [HX.out, HY.out, HE.out]
            · exact HJ.out j (by omega)
          case measure => simp [intOf]; omega
        · have he' : (x != y) = true := by simp [he]
          have HE := Lib.hid he
          clear he
          go_wp2_with fail
          go_quiet (fail)
          go_wp2
          go_ret
          exact ⟨ret_bool (sameB_at (k := k) (by rw [HX.out, HY.out]; intro e; injection e with e; exact HE.out e)).symm, _, World.drewN_drewN _ _ _⟩
      · go_wp2
        go_ret
        exact ⟨ret_bool (sameB_true (by have := HL.out; have := HL'.out; have := HN.out; omega) fun j hj => HJ.out j (by have := HL.out; omega)).symm, _, rfl⟩
  · have hnn' : ((n : Int) != n') = true := by rw [bne_iff_ne]; omega
    go_enter Try.func22, Try.ntmps22
    go_wp2
    go_ret
    exact ⟨ret_bool (sameB_len (by have := HL.out; have := HL'.out; omega)).symm, 0, rfl⟩

/-- The reference asks for the order from the second number on: the first is above 0 anyhow. -/
def Last (xs : List Int) (k : Nat) (last : Int) : Prop := (k = 0 → last = 0) ∧ (0 < k → xs[k - 1]? = some last)
theorem Last.next {xs : List Int} {k : Nat} {x : Int} (h : xs[k]? = some x) : Last xs (k + 1) x := ⟨fun e => by omega, fun _ => by simpa using h⟩

set_option maxHeartbeats 1000000 in
theorem rcheck_any (B : Nat) (A A' : Option Addr) (n c n' c' : Nat) (vs : List Int) (es : List Edg) (w : World) (h : RdU w B A n c vs) (h' : RdE w B A' n' c' es) (hB : B ≤ w.heap.size) :
    Calls Try.prog 15 #[.agg #[.slice A n c, .slice A' n' c']] w fun e w' => e = .returned (.int .i64 (gcheck vs es)) ∧ Below w.heap.size w w' := by
  have HL := Lib.hid h.len
  have HL' := Lib.hid h'.len
  obtain ⟨hn, hc⟩ := h.bd
  obtain ⟨hn', hc'⟩ := h'.bd
  have hb : Below w.heap.size w (w.alloc (.cells #[.slice A n c, .slice A' n' c'] 25)) := (Below.refl _ _).alloc (Nat.le_refl _) _
  by_cases h64 : 64 < n
  · go_enter Try.func15, Try.ntmps15
    go_wp2
    go_ret
    exact ⟨ret_int (by unfold gcheck; rw [if_pos (by have := HL.out; omega)]), hb⟩
  by_cases h160 : 160 < n'
  · go_enter Try.func15, Try.ntmps15
    go_wp2
    go_ret
    exact ⟨ret_int (by unfold gcheck; rw [if_pos (by have := HL'.out; omega)]), hb⟩
  have HG : Hid (gcheck vs es = if chkVs 0 vs ≠ 0 then chkVs 0 vs else chkEs vs 0 es) := by
    show gcheck vs es = _
    unfold gcheck; rw [if_neg (by have := HL.out; have := HL'.out; omega)]
  have hr := h.below (hb.mono hB)
  have HB := Lib.hid hb
  clear hb
  go_enter Try.func15, Try.ntmps15
  go_wp2
  go_loop [20] (fun i => ∃ (k : Nat) (last : Int), k ≤ n ∧ i = .int .i64 k ∧ Last vs k last ∧ Hid (chkVs last (vs.drop k) = chkVs 0 vs)) (fun i => n - (intOf i).toNat)
  case atStart => exact ⟨0, 0, Nat.zero_le _, rfl, ⟨fun _ => rfl, fun h => absurd h (by omega)⟩, rfl⟩
  case round =>
    obtain ⟨k, last, hk, rfl, HLA, HJ⟩ := hrel
    by_cases hlt : k < n
    · obtain ⟨ad, y, rfl, hbl, hy, _, hcell⟩ := hr.at_ hlt
      have HY := Lib.hid hy
      clear hy
      have HU : Hid (chkVs 0 vs = if chkN last y ≠ 0 then chkN last y else chkVs y (vs.drop (k + 1))) := by
        show chkVs 0 vs = _
        rw [← HJ.out, drop_at HY.out, chkVs_cons]
      by_cases h1 : y < 1
      · go_wp2
        go_ret
        have e1 : chkN last y = 2 := by unfold chkN; rw [if_pos (by omega)]
        refine ⟨ret_int ?_, HB.out⟩
        rw [HG.out, HU.out, e1]; rfl
      by_cases h2 : 1048576 < y
      · go_wp2
        go_ret
        have e1 : chkN last y = 2 := by unfold chkN; rw [if_pos (by omega)]
        refine ⟨ret_int ?_, HB.out⟩
        rw [HG.out, HU.out, e1]; rfl
      by_cases h0 : (0 : Int) < k
      · obtain ⟨ad', z, hee, _, hz, _, hcellz⟩ := hr.at_ (k := k - 1) (by omega)
        injection hee with hee
        subst hee
        have hzl : z = last := by have := HLA.2 (by omega); rw [hz] at this; injection this
        subst hzl
        clear hz
        have b1 : (k : Int) - 1 < n := by omega
        by_cases h3 : y ≤ z
        · go_wp2
          go_ret
          have e1 : chkN z y = 19 := by unfold chkN; rw [if_neg (by omega), if_pos (by omega)]
          refine ⟨ret_int ?_, HB.out⟩
          rw [HG.out, HU.out, e1]; rfl
        · go_wp2
          go_round
          case rel =>
            refine ⟨k + 1, y, by omega, by go_num, Last.next HY.out, ?_⟩
            have e1 : chkN z y = 0 := by unfold chkN; rw [if_neg (by omega), if_neg (by omega)]
            show chkVs y (vs.drop (k + 1)) = chkVs 0 vs
            rw [HU.out, e1]; rfl
          case measure => simp [intOf]; omega
      · have hl0 : Hid (last = 0) := HLA.1 (by omega)
        go_wp2
        go_round
        case rel =>
          refine ⟨k + 1, y, by omega, by go_num, Last.next HY.out, ?_⟩
          have e1 : chkN last y = 0 := by unfold chkN; have := hl0.out; rw [if_neg (by omega), if_neg (by omega)]
          show chkVs y (vs.drop (k + 1)) = chkVs 0 vs
          rw [HU.out, e1]; rfl
        case measure => simp [intOf]; omega
    · obtain rfl : k = n := by omega
      have HV : Hid (chkVs 0 vs = 0) := by
        show chkVs 0 vs = 0
        rw [← HJ.out, List.drop_of_length_le (by have := HL.out; omega)]; rfl
      have HG2 : Hid (gcheck vs es = chkEs vs 0 es) := by
        show gcheck vs es = chkEs vs 0 es
        rw [HG.out, if_neg (by simp [HV.out])]
      clear HJ HG
      go_wp2
      have hG0 := Blk.new w 25 #[.slice A k c, .slice A' n' c']
      go_loopw [47] (fun i wr => ∃ (j : Nat) (last : Int), j ≤ n' ∧ i = .int .i64 j ∧ Last (es.map (·.1)) j last ∧ Hid (chkEs vs last (es.drop j) = chkEs vs 0 es) ∧
          Below w.heap.size w wr ∧ Blk wr w.heap.size 25 #[.slice A k c, .slice A' n' c']) (fun i _ => n' - (intOf i).toNat)
      case atStart => exact ⟨0, 0, Nat.zero_le _, rfl, ⟨fun _ => rfl, fun h => absurd h (by omega)⟩, rfl, HB.out, hG0⟩
      case round =>
        obtain ⟨j, last, hj, rfl, HLA, HJ, hbr, hG⟩ := hrel
        clear hG0
        have hq := h.below (hbr.mono hB)
        have hq' := h'.below (hbr.mono hB)
        obtain ⟨hg0, hg1⟩ := hG.c2
        have hsz := hG.lt
        by_cases hlt : j < n'
        · obtain ⟨ad, x, rfl, hbl, hx, _, hc1, hc2, hc3⟩ := hq'.at_ hlt
          have HX := Lib.hid hx
          clear hx
          have HU : Hid (chkEs vs 0 es = if chkE vs last x ≠ 0 then chkE vs last x else chkEs vs x.1 (es.drop (j + 1))) := by
            show chkEs vs 0 es = _
            rw [← HJ.out, drop_at HX.out, chkEs_cons]
          have HBX := Lib.hid (hbr.alloc (by omega) (.cells #[.int .u32 x.1, .int .u32 x.2.1, .int .u32 x.2.2] 39))
          have hGx := hG.alloc (.cells #[.int .u32 x.1, .int .u32 x.2.1, .int .u32 x.2.2] 39)
          have hX := Blk.new wr 39 #[.int .u32 x.1, .int .u32 x.2.1, .int .u32 x.2.2]
          have hqx := hq.below (Below.alloc (Below.refl B wr) (by omega) (.cells #[.int .u32 x.1, .int .u32 x.2.1, .int .u32 x.2.2] 39))
          by_cases h1 : x.1 < 1
          · go_wp2
            go_ret
            have e1 : chkE vs last x = 2 := by unfold chkE chkN; rw [if_pos (c := x.1 < 1 ∨ _) (by omega)]; rfl
            refine ⟨ret_int ?_, HBX.out⟩
            rw [HG2.out, HU.out, e1]; rfl
          by_cases h2 : 1048576 < x.1
          · go_wp2
            go_ret
            have e1 : chkE vs last x = 2 := by unfold chkE chkN; rw [if_pos (c := x.1 < 1 ∨ _) (by omega)]; rfl
            refine ⟨ret_int ?_, HBX.out⟩
            rw [HG2.out, HU.out, e1]; rfl
          have hq'x := hq'.below (Below.alloc (Below.refl B wr) (by omega) (.cells #[.int .u32 x.1, .int .u32 x.2.1, .int .u32 x.2.2] 39))
          by_cases h0 : (0 : Int) < j
          · obtain ⟨ad', z, hee, _, hz, _, hcz, _, _⟩ := hq'x.at_ (k := j - 1) (by omega)
            injection hee with hee
            subst hee
            have hzl : z.1 = last := by
              have := HLA.2 (by omega)
              rw [List.getElem?_map, hz] at this
              injection this
            subst hzl
            clear hz
            have h0n : 0 < j := by omega
            have b1 : (j : Int) - 1 < n' := by omega
            by_cases h3 : x.1 ≤ z.1
            · go_wp2_with fail
              go_quiet (fail)
              go_wp2
              go_ret
              have e1 : chkE vs z.1 x = 19 := by unfold chkE chkN; rw [if_neg (c := x.1 < 1 ∨ _) (by omega), if_pos (c := x.1 ≤ z.1) (by omega)]; rfl
              refine ⟨ret_int ?_, below_drewN HBX.out _⟩
              rw [HG2.out, HU.out, e1]; rfl
            · have hz0 : Hid (chkN z.1 x.1 = 0) := by show chkN _ _ = 0; unfold chkN; rw [if_neg (by omega), if_neg (by omega)]
              have h3' : decide (x.1 ≤ z.1) = false := by simpa using h3
              go_wp2_with fail
              go_quiet (fail)
              by_cases hab : x.2.1 = x.2.2
              · have hab' : (x.2.1 == x.2.2) = true := by simpa using hab
                have HAB := Lib.hid hab
                clear hab
                go_wp2
                go_ret
                refine ⟨ret_int ?_, below_drewN HBX.out _⟩
                have e1 : chkE vs z.1 x = 20 := by unfold chkE; rw [if_neg (by simp [hz0.out]), if_pos HAB.out]
                rw [HG2.out, HU.out, e1]; rfl
              · have hab' : (x.2.1 == x.2.2) = false := by simpa using hab
                have HAB := Lib.hid hab
                clear hab
                cases ha : hasB vs x.2.1
                · have HA := Lib.hid ha
                  clear ha
                  go_wp2_with (go_at_call 57; refine (has_any B _ _ _ _ _ _ _ (hqx.drewN _) (by simp; omega)).mono ?_; rintro e w' ⟨rfl, hb'⟩; rw [HA.out])
                  go_ret
                  refine ⟨ret_int ?_, (below_drewN HBX.out _).trans (hb'.mono (by simp; omega))⟩
                  have e1 : chkE vs z.1 x = 21 := by unfold chkE; rw [if_neg (by simp [hz0.out]), if_neg HAB.out, if_pos (.inl (by simpa [hasB] using HA.out))]
                  rw [HG2.out, HU.out, e1]; rfl
                · cases hbn : hasB vs x.2.2
                  all_goals
                    have HA := Lib.hid ha
                    have HBN := Lib.hid hbn
                    clear ha hbn
                    go_wp2_with (first | (go_at_call_of 57 x.2.1; refine (has_any B _ _ _ _ _ _ _ (hqx.drewN _) (by simp; omega)).mono ?_; rintro e w' ⟨rfl, hb'⟩; rw [HA.out]; have hqy := (hqx.drewN _).below (hb'.mono (by simp; omega)); have hGy := (hGx.drewN _).below hb' (by simp; omega); have hXy := (hX.drewN _).below hb' (by simp); obtain ⟨hc4, hc5⟩ := hGy.c2; obtain ⟨hc6, hc7, hc8⟩ := hXy.c3; have hsy := hXy.lt) | (go_at_call_of 57 x.2.2; refine (has_any B _ _ _ _ _ _ _ hqy (by omega)).mono ?_; rintro e w'' ⟨rfl, hb''⟩; rw [HBN.out]))
                  · go_ret
                    refine ⟨ret_int ?_, ((below_drewN HBX.out _).trans (hb'.mono (by simp; omega))).trans (hb''.mono (by omega))⟩
                    have e1 : chkE vs z.1 x = 21 := by unfold chkE; rw [if_neg (by simp [hz0.out]), if_neg HAB.out, if_pos (.inr (by simpa [hasB] using HBN.out))]
                    rw [HG2.out, HU.out, e1]; rfl
                  · go_roundw
                    case rel =>
                      refine ⟨j + 1, x.1, by omega, by go_num, Last.next (by rw [List.getElem?_map, HX.out]; rfl), ?_, ((below_drewN HBX.out _).trans (hb'.mono (by simp; omega))).trans (hb''.mono (by omega)), hGy.below hb'' (by omega)⟩
                      have e1 : chkE vs z.1 x = 0 := by
                        unfold chkE; rw [if_neg (by simp [hz0.out]), if_neg HAB.out, if_neg (fun h => by rcases h with h | h; exact h (by simpa [hasB] using HA.out); exact h (by simpa [hasB] using HBN.out))]
                      show chkEs vs x.1 (es.drop (j + 1)) = chkEs vs 0 es
                      rw [HU.out, e1]; rfl
                    case measure => simp [intOf]; omega
          · have h0' : decide (0 < j) = false := by simpa using h0
            have hz0 : Hid (chkN last x.1 = 0) := by
              show chkN _ _ = 0
              have := HLA.1 (by omega)
              unfold chkN; rw [if_neg (by omega), if_neg (by omega)]
            go_wp2_with fail
            go_quiet (fail)
            by_cases hab : x.2.1 = x.2.2
            · have hab' : (x.2.1 == x.2.2) = true := by simpa using hab
              have HAB := Lib.hid hab
              clear hab
              go_wp2
              go_ret
              refine ⟨ret_int ?_, below_drewN HBX.out _⟩
              have e1 : chkE vs last x = 20 := by unfold chkE; rw [if_neg (by simp [hz0.out]), if_pos HAB.out]
              rw [HG2.out, HU.out, e1]; rfl
            · have hab' : (x.2.1 == x.2.2) = false := by simpa using hab
              have HAB := Lib.hid hab
              clear hab
              cases ha : hasB vs x.2.1
              · have HA := Lib.hid ha
                clear ha
                go_wp2_with (go_at_call 57; refine (has_any B _ _ _ _ _ _ _ (hqx.drewN _) (by simp; omega)).mono ?_; rintro e w' ⟨rfl, hb'⟩; rw [HA.out])
                go_ret
                refine ⟨ret_int ?_, (below_drewN HBX.out _).trans (hb'.mono (by simp; omega))⟩
                have e1 : chkE vs last x = 21 := by unfold chkE; rw [if_neg (by simp [hz0.out]), if_neg HAB.out, if_pos (.inl (by simpa [hasB] using HA.out))]
                rw [HG2.out, HU.out, e1]; rfl
              · cases hbn : hasB vs x.2.2
                all_goals
                  have HA := Lib.hid ha
                  have HBN := Lib.hid hbn
                  clear ha hbn
                  go_wp2_with (first | (go_at_call_of 57 x.2.1; refine (has_any B _ _ _ _ _ _ _ (hqx.drewN _) (by simp; omega)).mono ?_; rintro e w' ⟨rfl, hb'⟩; rw [HA.out]; have hqy := (hqx.drewN _).below (hb'.mono (by simp; omega)); have hGy := (hGx.drewN _).below hb' (by simp; omega); have hXy := (hX.drewN _).below hb' (by simp); obtain ⟨hc4, hc5⟩ := hGy.c2; obtain ⟨hc6, hc7, hc8⟩ := hXy.c3; have hsy := hXy.lt) | (go_at_call_of 57 x.2.2; refine (has_any B _ _ _ _ _ _ _ hqy (by omega)).mono ?_; rintro e w'' ⟨rfl, hb''⟩; rw [HBN.out]))
                · go_ret
                  refine ⟨ret_int ?_, ((below_drewN HBX.out _).trans (hb'.mono (by simp; omega))).trans (hb''.mono (by omega))⟩
                  have e1 : chkE vs last x = 21 := by unfold chkE; rw [if_neg (by simp [hz0.out]), if_neg HAB.out, if_pos (.inr (by simpa [hasB] using HBN.out))]
                  rw [HG2.out, HU.out, e1]; rfl
                · go_roundw
                  case rel =>
                    refine ⟨j + 1, x.1, by omega, by go_num, Last.next (by rw [List.getElem?_map, HX.out]; rfl), ?_, ((below_drewN HBX.out _).trans (hb'.mono (by simp; omega))).trans (hb''.mono (by omega)), hGy.below hb'' (by omega)⟩
                    have e1 : chkE vs last x = 0 := by
                      unfold chkE; rw [if_neg (by simp [hz0.out]), if_neg HAB.out, if_neg (fun h => by rcases h with h | h; exact h (by simpa [hasB] using HA.out); exact h (by simpa [hasB] using HBN.out))]
                    show chkEs vs x.1 (es.drop (j + 1)) = chkEs vs 0 es
                    rw [HU.out, e1]; rfl
                  case measure => simp [intOf]; omega
        · go_wp2
          go_ret
          refine ⟨ret_int ?_, hbr⟩
          have e1 : es.drop j = [] := List.drop_of_length_le (by have := HL'.out; omega)
          rw [HG2.out, ← HJ.out, e1]
          rfl

end Go.Proofs.Ytklmckbpbloonaa
