/- Words on memory (what a slice reads as), and small laws on lists, for the proofs of this seat. -/
import Derived.WalkKit
import Derived.WalkSpells
import Derived.WalkLawsBesides
import Derived.Lib.Hide
import Derived.Deep.QuietTactic
import Derived.BigQuiet
import Derived.Laws.OwnMore
import Derived.Deep.AppendLies
import Derived.Deep.Draws
import Derived.Deep.DeepFit
import Derived.Deep.RegionWith
import Derived.Deep.RegionHeld3
import Derived.Deep.RegionLaw
import Derived.Deep.LoopGhost
import Derived.Laws.Rows
import Derived.Handy
namespace Go.Proofs.Ytnbaamjdlgojaaa
open Go.RowKit

theorem block_of_add (a : Addr) (n : Nat) : (a.add n).block = a.block := by unfold Addr.add; split <;> rfl
theorem add_of_add (a : Addr) (i j : Nat) : (a.add i).add j = a.add (i + j) := by
  unfold Addr.add
  by_cases hi : i = 0 <;> by_cases hj : j = 0 <;> simp [hi, hj, Nat.add_assoc]

theorem add_next (a : Addr) (i j : Nat) : (⟨(a.add i).block, (a.add i).off + (j + 1), none⟩ : Addr) = a.add (i + (j + 1)) := by
  unfold Addr.add
  by_cases hi : i = 0 <;> simp [hi, Nat.add_assoc]

/-- The slice value with address A and n elements of 'size' cells holds the cells xs, below block B. -/
def Reads (w : World) (B size : Nat) (A : Option Addr) (n : Nat) (xs : List Value) : Prop :=
  xs.length = n * size ∧ (0 < n → ∃ ad, A = some ad ∧ ad.block < B ∧ ∀ j u, xs[j]? = some u → w.cell? (ad.add j) = some u)

section
variable {w w' : World} {B B' size n : Nat} {A : Option Addr} {xs : List Value}
theorem Reads.none_ : Reads w B size A 0 [] := ⟨by simp, fun h => absurd h (by omega)⟩
theorem Reads.keep (h : Reads w B size A n xs) (hk : ∀ p : Addr, p.block < B → w'.cell? p = w.cell? p) : Reads w' B size A n xs :=
  ⟨h.1, fun hn => by
    obtain ⟨ad, e, hb, hc⟩ := h.2 hn
    exact ⟨ad, e, hb, fun j u hu => (hk _ (by rw [block_of_add]; exact hb)).trans (hc j u hu)⟩⟩
theorem Reads.more (h : Reads w B size A n xs) (hB : B ≤ B') : Reads w B' size A n xs :=
  ⟨h.1, fun hn => by
    obtain ⟨ad, e, hb, hc⟩ := h.2 hn
    exact ⟨ad, e, by omega, hc⟩⟩
theorem Reads.below (h : Reads w B size A n xs) (hb : Below B w w') : Reads w' B size A n xs := h.keep fun _ hp => hb.cell hp
end

/-- Block g is just the cells cs of element type t, none frozen. -/
def Blk (w : World) (g : Nat) (t : TypeId) (cs : Array Value) : Prop := w.heap[g]? = some (.cells cs t (0, 0))
section
variable {w w' : World} {g : Nat} {t : TypeId} {cs : Array Value} {a b c : Value}
theorem Blk.lt (h : Blk w g t cs) : g < w.heap.size := by
  rcases Nat.lt_or_ge g w.heap.size with hlt | hge
  · exact hlt
  · unfold Blk at h; rw [Array.getElem?_eq_none hge] at h; cases h
theorem Blk.cell (h : Blk w g t cs) (i : Nat) : w.cell? ⟨g, i, none⟩ = cs[i]? := cell_of_row w g i cs t (0, 0) h
theorem Blk.frozen (h : Blk w g t cs) (i : Nat) : w.frozen? ⟨g, i, none⟩ = false := by
  unfold Blk at h
  simp [World.frozen?, h]
theorem Blk.new (w : World) (t : TypeId) (cs : Array Value) : Blk (w.alloc (.cells cs t)) w.heap.size t cs := heap_alloc_new w _
theorem Blk.drew (h : Blk w g t cs) : Blk w.drew g t cs := h
theorem Blk.drewN (h : Blk w g t cs) (n : Nat) : Blk (w.drewN n) g t cs := h
theorem Blk.alloc (h : Blk w g t cs) (o : Obj) : Blk (w.alloc o) g t cs := (Below.heap_alloc w o g h.lt).trans h
theorem Blk.set_ (h : Blk w g t cs) (i : Nat) (u : Value) : Blk (w.setCell ⟨g, i, none⟩ u) g t (cs.setIfInBounds i u) := by
  unfold Blk at h ⊢
  simp [World.setCell, Array.getElem?_modify, h]
theorem Blk.far (h : Blk w g t cs) {p : Addr} (hp : g ≠ p.block) (u : Value) : Blk (w.setCell p u) g t cs := (Below.heap_setCell w p u g hp).trans h
theorem Blk.below {B : Nat} (h : Blk w g t cs) (hb : Below B w w') (hg : g < B) : Blk w' g t cs := (hb.block g hg).trans h
theorem Blk.grown {row : Option Nat} (h : Blk w g t cs) (hb : w.grownBy w' row) (hg : some g ≠ row) : Blk w' g t cs := (hb.block g h.lt hg).trans h
theorem Blk.ne_ {g' : Nat} {t' : TypeId} {cs' : Array Value} (h : Blk w g t cs) (h' : Blk w g' t' cs') (hne : t ≠ t') : g ≠ g' := by
  rintro rfl
  unfold Blk at h h'
  rw [h] at h'
  injection h' with h'
  injection h' with _ ht
  exact hne ht
theorem own_blk_ne {base : Nat} {e : TypeId} {size n : Nat} {v : Value} {xs : List Value} (h : w.ownsRow base e size v n xs) (hg : Blk w g t cs) (hne : e ≠ t) : v.ownBlock ≠ some g := by
  rcases h.2 with ⟨rfl, _⟩ | ⟨g', cap, cur, rfl, _, hh, _⟩
  · simp [Value.ownBlock]
  · intro he
    have : g' = g := by simpa [Value.ownBlock] using he
    subst this
    exact Blk.ne_ (t := e) hh hg hne rfl
theorem Blk.c1 (h : Blk w g t #[a]) : w.cell? ⟨g, 0, none⟩ = some a := h.cell 0
theorem Blk.c2 (h : Blk w g t #[a, b]) : w.cell? ⟨g, 0, none⟩ = some a ∧ w.cell? ⟨g, 1, none⟩ = some b := ⟨h.cell 0, h.cell 1⟩
theorem Blk.c3 (h : Blk w g t #[a, b, c]) : w.cell? ⟨g, 0, none⟩ = some a ∧ w.cell? ⟨g, 1, none⟩ = some b ∧ w.cell? ⟨g, 2, none⟩ = some c := ⟨h.cell 0, h.cell 1, h.cell 2⟩
end
theorem Reads.of_own {w : World} {base size n c : Nat} {e : TypeId} {A : Option Addr} {xs : List Value} (h : w.ownsRow base e size (.slice A n c) n xs) : Reads w w.heap.size size A n xs := by
  refine ⟨h.1, fun hn => ?_⟩
  obtain ⟨g, cap, hv, _, hlt⟩ := h.form hn
  have hA : A = some ⟨g, 0, none⟩ := by injection hv
  subst hA
  exact ⟨_, rfl, hlt, h.cells (g := g) rfl⟩

/-- Lists of numbers of 32 bits, and their cells. -/
def U (xs : List Int) : List Value := xs.map (Value.int .u32)
theorem U_len (xs : List Int) : (U xs).length = xs.length := by simp [U]
theorem U_at {xs : List Int} {k : Nat} {x : Int} (h : xs[k]? = some x) : (U xs)[k]? = some (.int .u32 x) := by simp [U, h]

/-- An edge: its number, its two ends. -/
abbrev Edg : Type := Int × Int × Int
def Ed (es : List Edg) : List Value := es.flatMap fun e => [.int .u32 e.1, .int .u32 e.2.1, .int .u32 e.2.2]
theorem Ed_len (es : List Edg) : (Ed es).length = es.length * 3 := by
  induction es with
  | nil => rfl
  | cons e es ih => simp [Ed] at ih ⊢; omega
theorem Ed_at {es : List Edg} {k : Nat} {e : Edg} (h : es[k]? = some e) :
    (Ed es)[k * 3]? = some (.int .u32 e.1) ∧ (Ed es)[k * 3 + 1]? = some (.int .u32 e.2.1) ∧ (Ed es)[k * 3 + 2]? = some (.int .u32 e.2.2) := by
  induction es generalizing k with
  | nil => simp at h
  | cons x es ih =>
    cases k with
    | zero => simp at h; subst h; simp [Ed]
    | succ k =>
      have := ih (k := k) (by simpa using h)
      have e1 : (k + 1) * 3 = k * 3 + 3 := by omega
      simp only [e1, Ed, List.flatMap_cons] at this ⊢
      refine ⟨?_, ?_, ?_⟩
      · rw [List.getElem?_append_right (by simp)]; simpa using this.1
      · rw [List.getElem?_append_right (by simp)]; simpa using this.2.1
      · rw [List.getElem?_append_right (by simp)]; simpa using this.2.2

/-- A []uint32, a []api.Edge that reads as a list. -/
def RdU (w : World) (B : Nat) (A : Option Addr) (n c : Nat) (xs : List Int) : Prop :=
  Reads w B 1 A n (U xs) ∧ n ≤ c ∧ c ≤ 9223372036854775807 ∧ (A = none → c = 0) ∧ ∀ x ∈ xs, 0 ≤ x ∧ x < 4294967296
def RdE (w : World) (B : Nat) (A : Option Addr) (n c : Nat) (es : List Edg) : Prop :=
  Reads w B 3 A n (Ed es) ∧ n ≤ c ∧ c ≤ 9223372036854775807 ∧ (A = none → c = 0) ∧ ∀ e ∈ es, (0 ≤ e.1 ∧ e.1 < 4294967296) ∧ (0 ≤ e.2.1 ∧ e.2.1 < 4294967296) ∧ (0 ≤ e.2.2 ∧ e.2.2 < 4294967296)
section
variable {w w' : World} {B B' n c : Nat} {A : Option Addr} {xs : List Int} {es : List Edg}
theorem RdU.len (h : RdU w B A n c xs) : xs.length = n := by have := h.1.1; rw [U_len] at this; omega
theorem RdE.len (h : RdE w B A n c es) : es.length = n := by have := h.1.1; rw [Ed_len] at this; omega
theorem RdU.bd (h : RdU w B A n c xs) : n ≤ c ∧ c ≤ 9223372036854775807 := ⟨h.2.1, h.2.2.1⟩
theorem RdE.bd (h : RdE w B A n c es) : n ≤ c ∧ c ≤ 9223372036854775807 := ⟨h.2.1, h.2.2.1⟩
theorem RdU.below (h : RdU w B A n c xs) (hb : Below B w w') : RdU w' B A n c xs := ⟨h.1.below hb, h.2⟩
theorem RdE.below (h : RdE w B A n c es) (hb : Below B w w') : RdE w' B A n c es := ⟨h.1.below hb, h.2⟩
theorem RdU.more (h : RdU w B A n c xs) (hB : B ≤ B') : RdU w B' A n c xs := ⟨h.1.more hB, h.2⟩
theorem RdE.more (h : RdE w B A n c es) (hB : B ≤ B') : RdE w B' A n c es := ⟨h.1.more hB, h.2⟩
theorem RdU.drew (h : RdU w B A n c xs) : RdU w.drew B A n c xs := h
theorem RdE.drew (h : RdE w B A n c es) : RdE w.drew B A n c es := h
theorem RdU.drewN (h : RdU w B A n c xs) (q : Nat) : RdU (w.drewN q) B A n c xs := h
theorem RdE.drewN (h : RdE w B A n c es) (q : Nat) : RdE (w.drewN q) B A n c es := h
theorem below_drewN {B : Nat} {a w : World} (h : Below B a w) (n : Nat) : Below B a (w.drewN n) := ⟨h.os, h.tape, h.output, h.size, h.block⟩
theorem RdU.at_ {k : Nat} (h : RdU w B A n c xs) (hk : k < n) :
    ∃ ad x, A = some ad ∧ ad.block < B ∧ xs[k]? = some x ∧ (0 ≤ x ∧ x < 4294967296) ∧ w.cell? (ad.add k) = some (.int .u32 x) := by
  obtain ⟨ad, e, hb, hc⟩ := h.1.2 (by omega)
  have hl : k < xs.length := by have := h.len; omega
  exact ⟨ad, xs[k], e, hb, List.getElem?_eq_getElem hl, h.2.2.2.2 _ (List.getElem_mem hl), hc k _ (U_at (List.getElem?_eq_getElem hl))⟩
theorem RdE.at_ {k : Nat} (h : RdE w B A n c es) (hk : k < n) :
    ∃ ad x, A = some ad ∧ ad.block < B ∧ es[k]? = some x ∧ ((0 ≤ x.1 ∧ x.1 < 4294967296) ∧ (0 ≤ x.2.1 ∧ x.2.1 < 4294967296) ∧ (0 ≤ x.2.2 ∧ x.2.2 < 4294967296)) ∧
      w.cell? (ad.add (k * 3)) = some (.int .u32 x.1) ∧ w.cell? ⟨(ad.add (k * 3)).block, (ad.add (k * 3)).off + 1, none⟩ = some (.int .u32 x.2.1) ∧
      w.cell? ⟨(ad.add (k * 3)).block, (ad.add (k * 3)).off + 2, none⟩ = some (.int .u32 x.2.2) := by
  obtain ⟨ad, e, hb, hc⟩ := h.1.2 (by omega)
  have hl : k < es.length := by have := h.len; omega
  obtain ⟨h1, h2, h3⟩ := Ed_at (List.getElem?_eq_getElem hl)
  exact ⟨ad, es[k], e, hb, List.getElem?_eq_getElem hl, h.2.2.2.2 _ (List.getElem_mem hl), hc _ _ h1, by rw [add_next]; exact hc _ _ h2, by rw [add_next]; exact hc _ _ h3⟩
end

/-- Old cells and old marks behind 'Below'. -/
theorem bcell {B : Nat} {W w1 : World} (hb : Below B W w1) : (∀ b o, b < B → w1.cell? ⟨b, o, none⟩ = W.cell? ⟨b, o, none⟩) ∧ (∀ b o, b < B → w1.frozen? ⟨b, o, none⟩ = W.frozen? ⟨b, o, none⟩) :=
  ⟨fun b o h => hb.cell (p := ⟨b, o, none⟩) h, fun b o h => hb.frozen (p := ⟨b, o, none⟩) h⟩

theorem ret_int {k : IntKind} {a b : Int} (h : a = b) : Ending.returned (.int k a) = .returned (.int k b) := by rw [h]
theorem ret_bool {a b : Bool} (h : a = b) : Ending.returned (.bool a) = .returned (.bool b) := by rw [h]
theorem drop_at {α : Type} {xs : List α} {k : Nat} {x : α} (h : xs[k]? = some x) : xs.drop k = x :: xs.drop (k + 1) := by
  obtain ⟨hk, e⟩ := List.getElem?_eq_some_iff.1 h
  rw [List.drop_eq_getElem_cons hk, e]
theorem take_at {α : Type} {xs : List α} {k : Nat} {x : α} (h : xs[k]? = some x) : xs.take (k + 1) = xs.take k ++ [x] := by
  obtain ⟨hk, e⟩ := List.getElem?_eq_some_iff.1 h
  rw [List.take_succ_eq_append_getElem hk, e]

/-- The place of x. -/
def idx (xs : List Int) (x : Int) : Int := if x ∈ xs then (xs.idxOf x : Int) else -1
theorem idx_miss {xs : List Int} {x : Int} (h : ∀ j, j < xs.length → xs[j]? ≠ some x) : idx xs x = -1 := by
  unfold idx
  rw [if_neg]
  intro hm
  obtain ⟨j, hj, e⟩ := List.mem_iff_getElem.1 hm
  exact h j hj (by rw [List.getElem?_eq_getElem hj, e])
theorem idxOf_hit {α : Type} [BEq α] [LawfulBEq α] {xs : List α} {x : α} : ∀ {k : Nat}, (∀ j, j < k → xs[j]? ≠ some x) → xs[k]? = some x → xs.idxOf x = k := by
  induction xs with
  | nil => intro k _ h; simp at h
  | cons y ys ih =>
    intro k hj hk
    rw [List.idxOf_cons]
    cases k with
    | zero => simp at hk; simp [hk]
    | succ k =>
      have h0 := hj 0 (by omega)
      simp at h0
      have := ih (k := k) (fun j hjk => by have := hj (j + 1) (by omega); simpa using this) (by simpa using hk)
      have hb : (y == x) = false := by simp [h0]
      rw [hb]; simp [this]
theorem idx_hit {xs : List Int} {x : Int} {k : Nat} (hj : ∀ j, j < k → xs[j]? ≠ some x) (hk : xs[k]? = some x) : idx xs x = k := by
  unfold idx
  rw [if_pos (List.mem_of_getElem? hk), idxOf_hit hj hk]
theorem idx_neg (xs : List Int) (x : Int) : (idx xs x < 0) = (x ∉ xs) := by
  unfold idx
  split <;> rename_i h <;> simp [h]
theorem idx_lo (xs : List Int) (x : Int) : -1 ≤ idx xs x ∧ idx xs x < xs.length ∨ xs = [] ∧ idx xs x = -1 := by
  unfold idx
  split
  · rename_i h; have := List.idxOf_lt_length_of_mem h; left; omega
  · rename_i h; cases xs <;> simp
    omega
end Go.Proofs.Ytnbaamjdlgojaaa
