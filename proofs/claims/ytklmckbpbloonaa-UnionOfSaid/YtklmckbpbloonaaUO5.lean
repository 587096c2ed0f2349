/- Parts of the proof: Conn, OwnUU, GraphP, Fill, GraphQ, MakeB, Awake, AwakeU, SortP, SortQ. -/
import Derived.Test.YtklmckbpbloonaaUO1
import Derived.Test.YtklmckbpbloonaaUO2
import Derived.Great.BuildSlice
import Derived.Test.YtklmckbpbloonaaUO4
import Derived.Test.YtklmckbpbloonaaUO3
namespace Go.Proofs.Ytklmckbpbloonaa

/-- y can be reached from x: each set that has x, and with one end of an edge the other one, has y. -/
def Conn (es : List Edg) (x y : Int) : Prop := ∀ S : Int → Prop, S x → (∀ e ∈ es, S e.2.1 ↔ S e.2.2) → S y
theorem Conn.refl (es : List Edg) (x : Int) : Conn es x x := fun _ h _ => h
theorem Conn.trans {es : List Edg} {x y z : Int} (h : Conn es x y) (k : Conn es y z) : Conn es x z := fun S hs hc => k S (h S hs hc) hc
theorem Conn.symm {es : List Edg} {x y : Int} (h : Conn es x y) : Conn es y x := fun S hs hc =>
  Classical.byContradiction fun hn => h (fun z => ¬ S z) hn (fun e he => not_congr (hc e he)) hs
theorem Conn.edge {es : List Edg} {e : Edg} (h : e ∈ es) : Conn es e.2.1 e.2.2 := fun _ hs hc => (hc e h).1 hs
theorem Conn.mono {es es' : List Edg} {x y : Int} (h : Conn es x y) (hsub : ∀ e ∈ es, e ∈ es') : Conn es' x y := fun S hs hc => h S hs fun e he => hc e (hsub e he)
/-- What is reached lies among the ends, but for the beginning. -/
theorem Conn.mem {es : List Edg} {x y : Int} (h : Conn es x y) : y = x ∨ ∃ e ∈ es, y = e.2.1 ∨ y = e.2.2 := by
  refine h (fun z => z = x ∨ ∃ e ∈ es, z = e.2.1 ∨ z = e.2.2) (.inl rfl) fun e he => ?_
  exact ⟨fun _ => .inr ⟨e, he, .inr rfl⟩, fun _ => .inr ⟨e, he, .inl rfl⟩⟩

def mxI (a b : Int) : Int := if b > a then b else a
def mnI (a b : Int) : Int := if b < a then b else a
/-- One edge: all that bear the higher one of its ends' labels bear the lower one. -/
def lstep (f : Int → Int) (e : Edg) : Int → Int := fun v => if f v = mxI (f e.2.1) (f e.2.2) then mnI (f e.2.1) (f e.2.2) else f v
def labF (es : List Edg) (f : Int → Int) : Int → Int := es.foldl lstep f
def lab (es : List Edg) : Int → Int := labF es id
theorem labF_append (es : List Edg) (e : Edg) (f : Int → Int) : labF (es ++ [e]) f = lstep (labF es f) e := by unfold labF; rw [List.foldl_append]; rfl
theorem mxI_mnI (a b : Int) : (mxI a b = a ∧ mnI a b = b ∧ b ≤ a) ∨ (mxI a b = b ∧ mnI a b = a ∧ a ≤ b) := by
  unfold mxI mnI; split <;> split <;> omega

/-- What holds of the labels behind some edges. -/
theorem lab_facts (es : List Edg) : (∀ v, Conn es v (lab es v)) ∧ (∀ v, lab es v ≤ v) ∧ (∀ e ∈ es, lab es e.2.1 = lab es e.2.2) := by
  have key : ∀ (n : Nat) (es : List Edg), es.length = n → (∀ v, Conn es v (lab es v)) ∧ (∀ v, lab es v ≤ v) ∧ (∀ e ∈ es, lab es e.2.1 = lab es e.2.2) := by
    intro n
    induction n with
    | zero =>
      intro es h
      have : es = [] := List.eq_nil_of_length_eq_zero h
      subst this
      exact ⟨fun v => Conn.refl _ _, fun v => Int.le_refl _, fun e he => by cases he⟩
    | succ n ih =>
      intro es h
      have hne : es ≠ [] := by intro e; subst e; simp at h
      obtain ⟨es', e, rfl⟩ : ∃ es' e, es = es' ++ [e] := ⟨es.dropLast, es.getLast hne, (List.dropLast_concat_getLast hne).symm⟩
      obtain ⟨h1, h2, h3⟩ := ih es' (by simp at h; omega)
      have hs : lab (es' ++ [e]) = lstep (lab es') e := labF_append es' e id
      have hsub : ∀ x ∈ es', x ∈ es' ++ [e] := fun x hx => List.mem_append_left _ hx
      have c0 : ∀ v, Conn (es' ++ [e]) v (lab es' v) := fun v => (h1 v).mono hsub
      have hedge : Conn (es' ++ [e]) e.2.1 e.2.2 := Conn.edge (by simp)
      have hab : Conn (es' ++ [e]) (lab es' e.2.1) (lab es' e.2.2) := ((c0 _).symm.trans hedge).trans (c0 _)
      rw [hs]
      have hm := mxI_mnI (lab es' e.2.1) (lab es' e.2.2)
      refine ⟨fun v => ?_, fun v => ?_, fun x hx => ?_⟩
      · unfold lstep
        split
        · rename_i hv
          refine (c0 v).trans ?_
          rw [hv]
          rcases hm with ⟨a, b, _⟩ | ⟨a, b, _⟩ <;> rw [a, b]
          · exact hab
          · exact hab.symm
        · exact c0 v
      · have := h2 v
        unfold lstep
        split
        · rename_i hv
          rcases hm with ⟨a, b, c⟩ | ⟨a, b, c⟩ <;> omega
        · exact this
      · rcases List.mem_append.1 hx with hx | hx
        · unfold lstep; rw [h3 x hx]
        · simp only [List.mem_singleton] at hx
          subst hx
          unfold lstep
          rcases hm with ⟨a, b, _⟩ | ⟨a, b, _⟩ <;> rw [a, b]
          · simp only [if_true]
            split
            · rfl
            · rfl
          · simp only [if_true]
            split <;> rfl
  exact key es.length es rfl
theorem lab_conn (es : List Edg) (v : Int) : Conn es v (lab es v) := (lab_facts es).1 v
theorem lab_le (es : List Edg) (v : Int) : lab es v ≤ v := (lab_facts es).2.1 v
theorem lab_iff {es : List Edg} {x y : Int} : lab es x = lab es y ↔ Conn es x y :=
  ⟨fun h => (lab_conn es x).trans (h ▸ (lab_conn es y).symm), fun h => (h (fun z => lab es z = lab es x) rfl fun e he => by rw [(lab_facts es).2.2 e he]).symm⟩
theorem lab_lab (es : List Edg) (v : Int) : lab es (lab es v) = lab es v := lab_iff.2 (lab_conn es v).symm

/-- The part of v; the parts, by their first ones. -/
def partL (vs : List Int) (es : List Edg) (v : Int) : List Int := vs.filter fun x => lab es x == lab es v
def partsL (vs : List Int) (es : List Edg) : List (List Int) := (vs.filter fun v => lab es v == v).map fun r => vs.filter fun x => lab es x == r
theorem labF_take_succ {es : List Edg} {k : Nat} {e : Edg} (h : es[k]? = some e) (f : Int → Int) : labF (es.take (k + 1)) f = lstep (labF (es.take k) f) e := by
  rw [take_at h, labF_append]

/-- Of rising vertices, with all ends: the first one of a part is its label. -/
theorem lab_mem {vs : List Int} {es : List Edg} (hends : ∀ e ∈ es, e.2.1 ∈ vs ∧ e.2.2 ∈ vs) {v : Int} (hv : v ∈ vs) : lab es v ∈ vs := by
  rcases (lab_conn es v).mem with h | ⟨e, he, h | h⟩
  · rw [h]; exact hv
  · rw [h]; exact (hends e he).1
  · rw [h]; exact (hends e he).2
theorem head_of_min {l : List Int} (hs : l.Pairwise (· < ·)) {m : Int} (hm : m ∈ l) (hle : ∀ x ∈ l, m ≤ x) : l[0]? = some m := by
  cases l with
  | nil => cases hm
  | cons y ys =>
    simp only [List.getElem?_cons_zero, Option.some.injEq]
    rcases List.mem_cons.1 hm with rfl | hm
    · rfl
    · have h1 := (List.pairwise_cons.1 hs).1 m hm
      have h2 := hle y List.mem_cons_self
      omega
theorem part_head {vs : List Int} {es : List Edg} (hs : vs.Pairwise (· < ·)) (hends : ∀ e ∈ es, e.2.1 ∈ vs ∧ e.2.2 ∈ vs) {v : Int} (hv : v ∈ vs) : (partL vs es v)[0]? = some (lab es v) := by
  refine head_of_min (hs.sublist List.filter_sublist) ?_ fun x hx => ?_
  · rw [List.mem_filter]; exact ⟨lab_mem hends hv, by rw [lab_lab]; simp⟩
  · rw [List.mem_filter] at hx
    have : lab es x = lab es v := by simpa using hx.2
    rw [← this]; exact lab_le es x
def partsTo (vs : List Int) (es : List Edg) (k : Nat) : List (List Int) := ((vs.take k).filter fun v => lab es v == v).map fun r => vs.filter fun x => lab es x == r
theorem partsTo_all (vs : List Int) (es : List Edg) : partsTo vs es vs.length = partsL vs es := by unfold partsTo partsL; rw [List.take_length]
theorem partsTo_succ {vs : List Int} {es : List Edg} {k : Nat} {v : Int} (h : vs[k]? = some v) : partsTo vs es (k + 1) = partsTo vs es k ++ if lab es v = v then [partL vs es v] else [] := by
  unfold partsTo; rw [take_at h, List.filter_append, List.map_append]
  congr 1
  simp only [List.filter_cons, List.filter_nil]
  by_cases e : lab es v = v
  · rw [if_pos (by simp [e]), if_pos e]; simp [partL, e]
  · rw [if_neg (by simp [e]), if_neg e]; rfl
theorem partsTo_len (vs : List Int) (es : List Edg) (k : Nat) : (partsTo vs es k).length ≤ k := by
  unfold partsTo
  rw [List.length_map]
  have h1 := List.length_filter_le (fun v => lab es v == v) (vs.take k)
  have h2 := List.length_take_le k vs
  omega
end Go.Proofs.Ytklmckbpbloonaa

namespace Go.Proofs.Ytklmckbpbloonaa
open Go.RowKit

/-- 'base', 'top': all the blocks lie from base on and ahead of top. -/
def OwnUU (w : World) (base top : Nat) (r : Option Nat) (A : Option Addr) (n c : Nat) (xss : List (List Int)) : Prop :=
  ∃ (hs : List (Option Addr × Nat × Nat)) (rs : List (Option Nat)), Own w 22 1 r A n c (hs.map hdV) ∧ (A = none → r = none) ∧ (∀ g, r = some g → base ≤ g ∧ g < top) ∧ hs.length = xss.length ∧ rs.length = xss.length ∧
    (∀ (j : Nat) (h : Option Addr × Nat × Nat) (q : Option Nat) (xs : List Int), hs[j]? = some h → rs[j]? = some q → xss[j]? = some xs → OwnU w q h.1 h.2.1 h.2.2 xs ∧ (∀ g, q = some g → base ≤ g ∧ g < top)) ∧
    (∀ (i j : Nat) (g : Nat), rs[i]? = some (some g) → rs[j]? = some (some g) → i = j)
section
variable {w w' : World} {base top top' : Nat} {r : Option Nat} {A : Option Addr} {n c : Nat} {xss : List (List Int)}
theorem OwnUU.nil_ (w : World) (base top : Nat) : OwnUU w base top none none 0 0 [] :=
  ⟨[], [], Own.nil_ w _ 1 none, fun _ => rfl, (fun g hg => by cases hg), rfl, rfl, (fun j h q xs e => by simp at e), (fun i j g e => by simp at e)⟩
theorem OwnUU.len (h : OwnUU w base top r A n c xss) : xss.length = n := by
  obtain ⟨hs, rs, h1, _, _, h2, _⟩ := h
  have := h1.2.2.1; rw [List.length_map] at this; omega
theorem OwnUU.more (h : OwnUU w base top r A n c xss) (ht : top ≤ top') : OwnUU w base top' r A n c xss := by
  obtain ⟨hs, rs, h1, h2, h3, h4, h5, h6, h7⟩ := h
  exact ⟨hs, rs, h1, h2, fun g hg => ⟨(h3 g hg).1, Nat.lt_of_lt_of_le (h3 g hg).2 ht⟩, h4, h5, fun j h q xs a b d => ⟨(h6 j h q xs a b d).1, fun g hg => ⟨((h6 j h q xs a b d).2 g hg).1, Nat.lt_of_lt_of_le ((h6 j h q xs a b d).2 g hg).2 ht⟩⟩, h7⟩
theorem OwnUU.below {B : Nat} (h : OwnUU w base top r A n c xss) (hb : Below B w w') (hB : top ≤ B) : OwnUU w' base top r A n c xss := by
  obtain ⟨hs, rs, h1, h2, h3, h4, h5, h6, h7⟩ := h
  exact ⟨hs, rs, h1.below hb (fun g hg => Nat.lt_of_lt_of_le (h3 g hg).2 hB), h2, h3, h4, h5, fun j h q xs a b d => ⟨(h6 j h q xs a b d).1.below hb (fun g hg => Nat.lt_of_lt_of_le ((h6 j h q xs a b d).2 g hg).2 hB), (h6 j h q xs a b d).2⟩, h7⟩
theorem OwnUU.alloc (h : OwnUU w base top r A n c xss) (ht : top ≤ w.heap.size) (o : Obj) : OwnUU (w.alloc o) base top r A n c xss := h.below ((Below.refl w.heap.size w).alloc (Nat.le_refl _) o) ht
theorem OwnUU.drewN (h : OwnUU w base top r A n c xss) (q : Nat) : OwnUU (w.drewN q) base top r A n c xss := h
theorem OwnUU.drew (h : OwnUU w base top r A n c xss) : OwnUU w.drew base top r A n c xss := h
/-- A write to a block that is no row of these two kinds. -/
theorem OwnUU.kept {row : Option Nat} (h : OwnUU w base top r A n c xss) (hg : w.grownBy w' row) (hne : ∀ g cur, row = some g → w.heap[g]? ≠ some (.cells cur 22 (0, 0)) ∧ w.heap[g]? ≠ some (.cells cur 31 (0, 0))) : OwnUU w' base top r A n c xss := by
  obtain ⟨hs, rs, h1, h2, h3, h4, h5, h6, h7⟩ := h
  refine ⟨hs, rs, h1.kept hg ?_, h2, h3, h4, h5, fun j h q xs a b d => ⟨(h6 j h q xs a b d).1.kept hg ?_, (h6 j h q xs a b d).2⟩, h7⟩
  · cases r with
    | none => exact .inl rfl
    | some g => right; intro e; obtain ⟨cur, hh⟩ := h1.block rfl; exact (hne g cur e.symm).1 hh
  · cases q with
    | none => exact .inl rfl
    | some g => right; intro e; obtain ⟨cur, hh⟩ := (h6 j h _ xs a b d).1.1.1.block rfl; exact (hne g cur e.symm).2 hh
theorem OwnUU.rd (h : OwnUU w base top r A n c xss) : RdUU w w.heap.size A n c xss := by
  obtain ⟨hs, rs, h1, h2, h3, h4, h5, h6, h7⟩ := h
  refine ⟨hs, h1.reads, h1.1, h1.2.1, fun hA => h1.cap0 (h2 hA), h4, fun j h xs a b => ?_⟩
  have hj : j < xss.length := by
    rcases Nat.lt_or_ge j xss.length with hj | hj
    · exact hj
    · rw [List.getElem?_eq_none hj] at b; cases b
  exact (h6 j h (rs[j]'(by omega)) xs a (List.getElem?_eq_getElem (by omega)) b).1.rd
end
theorem infoUU : (Try.prog.info? 22).map (fun i => (i.zero, i.size, i.bytes)) = some (some (.slice none 0 0), 1, 24) := by kernel_rfl
theorem Reads.oneBlk {w : World} {g : Nat} {t : TypeId} {v : Value} (h : Blk w g t #[v]) : Reads w w.heap.size 1 (some ⟨g, 0, none⟩) 1 [v] :=
  ⟨rfl, fun _ => ⟨_, rfl, h.lt, fun j u hu => by rw [Addr.add_lit, Nat.zero_add, h.cell, ← hu]; simp⟩⟩

theorem Own.at_one {w : World} {e : TypeId} {n c j : Nat} {r : Option Nat} {A : Option Addr} {xs : List Value} (h : Own w e 1 r A n c xs) {v : Value} (hj : xs[j]? = some v) :
    ∃ g, r = some g ∧ A = some ⟨g, 0, none⟩ ∧ g < w.heap.size ∧ w.cell? ⟨g, j, none⟩ = some v ∧ w.frozen? ⟨g, j, none⟩ = false := by
  obtain ⟨h1, h2, h3, h4⟩ := h
  have hjl : j < xs.length := by
    rcases Nat.lt_or_ge j xs.length with hj' | hj'
    · exact hj'
    · rw [List.getElem?_eq_none hj'] at hj; cases hj
  cases r with
  | none => simp only at h4; omega
  | some g =>
    obtain ⟨rfl, cur, h5, h6, h7⟩ := h4
    have hb : Blk w g e cur := h5
    refine ⟨g, rfl, rfl, hb.lt, ?_, hb.frozen j⟩
    rw [hb.cell, ← hj, ← h7, List.getElem?_take_of_lt (by omega)]
    simp
theorem Own.set_one {w : World} {e : TypeId} {n c j : Nat} {g : Nat} {A : Option Addr} {xs : List Value} (h : Own w e 1 (some g) A n c xs) (u : Value) :
    Own (w.setCell ⟨g, j, none⟩ u) e 1 (some g) A n c (xs.set j u) := by
  obtain ⟨h1, h2, h3, rfl, cur, h5, h6, h7⟩ := h
  have hb : Blk w g e cur := h5
  refine ⟨h1, h2, by simpa using h3, rfl, _, hb.set_ j u, by simpa using h6, ?_⟩
  rw [← h7, Array.toList_setIfInBounds, List.take_set]
/-- A row is written anew: 'out[j] = row'. 'w1': behind the row's own append. -/
theorem OwnUU.put {w w1 : World} {base top : Nat} {A : Option Addr} {n c : Nat} {xss : List (List Int)} {j : Nat} {hs : List (Option Addr × Nat × Nat)} {rs : List (Option Nat)} {g : Nat}
    (h1 : Own w 22 1 (some g) A n c (hs.map hdV)) (h2 : A = none → (some g : Option Nat) = none) (h3 : ∀ g', (some g : Option Nat) = some g' → base ≤ g' ∧ g' < top) (h4 : hs.length = xss.length) (h5 : rs.length = xss.length)
    (h6 : ∀ (j : Nat) (h : Option Addr × Nat × Nat) (q : Option Nat) (xs : List Int), hs[j]? = some h → rs[j]? = some q → xss[j]? = some xs → OwnU w q h.1 h.2.1 h.2.2 xs ∧ (∀ g, q = some g → base ≤ g ∧ g < top))
    (h7 : ∀ (i j : Nat) (g : Nat), rs[i]? = some (some g) → rs[j]? = some (some g) → i = j)
    {q q' : Option Nat} {ys : List Int} {A'' : Option Addr} {n'' c'' : Nat} (hq : rs[j]? = some q) (hg : w.grownBy w1 q) (hqq : q' = q ∨ ∀ g, q' = some g → w.heap.size ≤ g) (hy : OwnU w1 q' A'' n'' c'' ys) (ht : top ≤ w.heap.size) (hb : base ≤ w.heap.size) :
    OwnUU (w1.setCell ⟨g, j, none⟩ (.slice A'' n'' c'')) base w1.heap.size (some g) A n c (xss.set j ys) := by
  have hsz := hg.size
  have hgt : g < top := (h3 g rfl).2
  have hjl : j < rs.length := (List.getElem?_eq_some_iff.1 hq).1
  -- no row of numbers is the row of rows
  have hne : ∀ (W : World) (q0 : Option Nat) (A0 : Option Addr) (n0 c0 : Nat) (x0 : List Int), W.heap[g]? = w.heap[g]? → OwnU W q0 A0 n0 c0 x0 → ∀ g0, q0 = some g0 → g0 ≠ g := by
    rintro W q0 A0 n0 c0 x0 e0 ho g0 rfl rfl
    obtain ⟨c1, e1⟩ := ho.1.1.block rfl
    obtain ⟨c2, e2⟩ := h1.block rfl
    rw [e0, e2] at e1
    injection e1 with e1
    injection e1 with _ e1
    revert e1; decide
  obtain ⟨hj0, ej0⟩ : ∃ h0, hs[j]? = some h0 := ⟨hs[j]'(by omega), List.getElem?_eq_getElem _⟩
  obtain ⟨x0, ex0⟩ : ∃ x0, xss[j]? = some x0 := ⟨xss[j]'(by omega), List.getElem?_eq_getElem _⟩
  have hqo := h6 j hj0 q x0 ej0 hq ex0
  have hgq : some g ≠ q := fun e => hne w q _ _ _ _ rfl hqo.1 g e.symm rfl
  have hgb : w1.heap[g]? = w.heap[g]? := hg.block g (by have := h1.lt g rfl; omega) hgq
  have h1' : Own w1 22 1 (some g) A n c (hs.map hdV) := h1.kept hg (.inr hgq)
  have far : ∀ (q0 : Option Nat) (A0 : Option Addr) (n0 c0 : Nat) (x0 : List Int), OwnU w1 q0 A0 n0 c0 x0 → OwnU (w1.setCell ⟨g, j, none⟩ (.slice A'' n'' c'')) q0 A0 n0 c0 x0 := fun q0 A0 n0 c0 x0 ho =>
    ho.setCell_far (fun g0 e0 => hne w1 q0 A0 n0 c0 x0 hgb ho g0 e0) _
  have hqt : ∀ g0, q' = some g0 → base ≤ g0 ∧ g0 < w1.heap.size := fun g0 e0 => by
    refine ⟨?_, hy.lt g0 e0⟩
    rcases hqq with e | e
    · exact (hqo.2 g0 (e ▸ e0)).1
    · have := e g0 e0; omega
  refine ⟨hs.set j (A'', n'', c''), rs.set j q', ?_, h2, fun g' e => ⟨(h3 g' e).1, by have := (h3 g' e).2; omega⟩, by simpa using h4, by simpa using h5, fun i h' q0 xs a b d => ?_, fun i k g0 a b => ?_⟩
  · have := h1'.set_one (j := j) (.slice A'' n'' c'')
    rwa [show (hs.map hdV).set j (.slice A'' n'' c'') = (hs.set j (A'', n'', c'')).map hdV by rw [List.map_set]; rfl] at this
  · rw [List.getElem?_set] at a b d
    by_cases hij : j = i
    · subst hij
      rw [if_pos rfl, if_pos (by omega)] at a b d
      injection a with a; injection b with b; injection d with d
      subst a; subst b; subst d
      exact ⟨far _ _ _ _ _ hy, hqt⟩
    · rw [if_neg hij] at a b d
      obtain ⟨k1, k2⟩ := h6 i h' q0 xs a b d
      refine ⟨far _ _ _ _ _ (k1.kept hg ?_), fun g0 e0 => ⟨(k2 g0 e0).1, by have := (k2 g0 e0).2; omega⟩⟩
      cases q0 with
      | none => exact .inl rfl
      | some g0 => right; intro e; exact hij (h7 j i g0 (by rw [hq, ← e]) b)
  · rw [List.getElem?_set] at a b
    -- a row that is new is none of the others
    have old : ∀ (i : Nat), i ≠ j → rs[i]? = some (some g0) → q' ≠ some g0 := by
      intro i hij e1 e2
      have hil : i < rs.length := (List.getElem?_eq_some_iff.1 e1).1
      have k2 := (h6 i (hs[i]'(by omega)) _ (xss[i]'(by omega)) (List.getElem?_eq_getElem _) e1 (List.getElem?_eq_getElem _)).2 g0 rfl
      rcases hqq with e | e
      · exact hij (h7 i j g0 e1 (by rw [hq, ← e, e2]))
      · have := e g0 e2; omega
    by_cases hij : j = i <;> by_cases hkj : j = k
    · omega
    · rw [if_pos hij, if_pos (by omega)] at a
      rw [if_neg hkj] at b
      injection a with a
      exact absurd a (old k (Ne.symm hkj) b)
    · rw [if_neg hij] at a
      rw [if_pos hkj, if_pos (by omega)] at b
      injection b with b
      exact absurd b (old i (Ne.symm hij) a)
    · rw [if_neg hij] at a
      rw [if_neg hkj] at b
      exact h7 i k g0 a b
/-- 'append(out, row)' at [][]uint32. -/
theorem appUU1 {ops : Array Oper} {rest : List Oper} {o : Oper} {a : Act} {Q : Exit → Act → World → Prop} (hgd : o.guard = none) (s x : Operand)
    (ho : o.op = .call { callee := .builtin .append, args := #[s, x], argTypes := #[33, 33] }) (w : World)
    (base top : Nat) (r : Option Nat) (A : Option Addr) (n c : Nat) (xss : List (List Int)) (hs : a.eval s = .slice A n c) (hown : OwnUU w base top r A n c xss) (ht : top ≤ w.heap.size) (hbase : base ≤ top)
    (g : Nat) (h : Option Addr × Nat × Nat) (q : Option Nat) (ys : List Int) (hx : a.eval x = .slice (some ⟨g, 0, none⟩) 1 1) (hblk : Blk w g 22 #[hdV h]) (hq : OwnU w q h.1 h.2.1 h.2.2 ys) (hqn : ∀ g, q = some g → top ≤ g) (hb : n ≤ 1099511627776)
    (hK : ∀ r' A'' c'' w', OwnUU w' base w'.heap.size r' A'' (n + 1) c'' (xss ++ [ys]) → w.grownBy w' r → (r' = r ∨ ∀ g, r' = some g → w.heap.size ≤ g) → wpList Try.prog ops Q rest (a.put o.dst (.slice A'' (n + 1) c'')) w') : wpList Try.prog ops Q (o :: rest) a w := by
  obtain ⟨i0, hi, hz0, hz1, hz2⟩ := info_parts infoUU
  obtain ⟨hs', rs, h1, h2, h3, h4, h5, h6, h7⟩ := hown
  refine wpList_append_x w hgd s x _ ho 22 i0 _ 1 24 Try.underlying33 hi hz0 hz1 hz2 rfl (by decide) r A n c _ hs h1 h2 w.heap.size (some ⟨g, 0, none⟩) 1 1 [hdV h] hx (Reads.oneBlk hblk) (by intro u hu; simp at hu; subst hu; rfl) (by unfold maxLen; omega) (by omega) ?_
  intro r' A'' c'' w' k2 k3 k4
  have keep : ∀ (q' : Option Nat) (A' : Option Addr) (n' c' : Nat) (xs : List Int), OwnU w q' A' n' c' xs → OwnU w' q' A' n' c' xs := by
    intro q' A' n' c' xs ho'
    refine ho'.kept k3 ?_
    cases q' with
    | none => exact .inl rfl
    | some g' =>
      right; intro e
      obtain ⟨c1, e1⟩ := ho'.1.1.block rfl
      obtain ⟨c2, e2⟩ := h1.block e.symm
      rw [e1] at e2
      injection e2 with e2
      injection e2 with _ e2
      revert e2; decide
  have hsz := k3.size
  refine hK r' A'' c'' w' ⟨hs' ++ [h], rs ++ [q], by simpa using k2, none_of_own k2, fun g hg => ⟨?_, k2.lt g hg⟩, by simp [h4], by simp [h5], fun j h' q' xs a b d => ?_, fun i j g' a b => ?_⟩ k3 k4
  · rcases k4 with e | e
    · exact (h3 g (e ▸ hg)).1
    · have := e g hg; omega
  · have hj : j < xss.length + 1 := by
      rcases Nat.lt_or_ge j (xss.length + 1) with hj | hj
      · exact hj
      · rw [List.getElem?_eq_none (by simp; omega)] at d; cases d
    by_cases hjl : j < xss.length
    · rw [List.getElem?_append_left (by omega)] at a b d
      have := h6 j h' q' xs a b d
      exact ⟨keep _ _ _ _ _ this.1, fun g hg => ⟨(this.2 g hg).1, by have := (this.2 g hg).2; omega⟩⟩
    · obtain rfl : j = xss.length := by omega
      rw [List.getElem?_append_right (by omega)] at a b d
      simp only [h4, h5, Nat.sub_self, List.getElem?_cons_zero, Option.some.injEq] at a b d
      subst a; subst b; subst d
      exact ⟨keep _ _ _ _ _ hq, fun g hg => ⟨by have := hqn g hg; omega, by have := hq.lt g hg; omega⟩⟩
  · have aux : ∀ (i : Nat) (g' : Nat), (rs ++ [q])[i]? = some (some g') → (i < xss.length ∧ rs[i]? = some (some g') ∧ g' < top) ∨ (i = xss.length ∧ q = some g' ∧ top ≤ g') := by
      intro i g' a
      by_cases hil : i < xss.length
      · rw [List.getElem?_append_left (by omega)] at a
        have e1 : hs'[i]? = some (hs'[i]'(by omega)) := List.getElem?_eq_getElem (by omega)
        have e2 : xss[i]? = some (xss[i]'(by omega)) := List.getElem?_eq_getElem (by omega)
        exact .inl ⟨hil, a, ((h6 i _ _ _ e1 a e2).2 g' rfl).2⟩
      · rw [List.getElem?_append_right (by omega)] at a
        have hi0 : i - rs.length = 0 := by
          rcases Nat.eq_zero_or_pos (i - rs.length) with h0 | h0
          · exact h0
          · rw [List.getElem?_eq_none (by simp; omega)] at a; cases a
        rw [hi0] at a
        simp at a
        exact .inr ⟨by omega, a, hqn g' a⟩
    rcases aux i g' a with ⟨a1, a2, a3⟩ | ⟨a1, a2, a3⟩ <;> rcases aux j g' b with ⟨b1, b2, b3⟩ | ⟨b1, b2, b3⟩
    · exact h7 i j g' a2 b2
    · omega
    · omega
    · omega
/-- '[][]uint32{nil}', ahead of an append. -/
theorem buildNil {ops : Array Oper} {rest : List Oper} {o : Oper} {a : Act} {w : World} {Q : Exit → Act → World → Prop} (hgd : o.guard = none) (ho : o.op = .buildSlice 33 1 #[(0, .const (.slice none 0 0))])
    (h : wpList Try.prog ops Q rest (a.put o.dst (.slice (some ⟨w.heap.size, 0, none⟩) 1 1)) (w.alloc (.cells #[.slice none 0 0] 22))) : wpList Try.prog ops Q (o :: rest) a w := by
  obtain ⟨i0, hi, hz0, hz1, hz2⟩ := info_parts infoUU
  refine wpList_buildSlice hgd 33 22 1 _ ho #[.slice none 0 0] i0 (.slice none 0 0) Try.underlying33 hi hz0 (by rw [hz1]; decide) (by rw [hz1]; decide) ?_ h
  rw [hz1]
  have e1 : (#[(0, Operand.const (Value.slice none 0 0))].map fun (i, x) => (i, a.eval x)).toList = [(0, Value.slice none 0 0)] := by simp [Act.eval]
  rw [e1]
  simp only [Nat.mul_one, show Array.range 1 = #[0] from rfl]
  simp [Instr.fill, Value.cells]
end Go.Proofs.Ytklmckbpbloonaa

namespace Go.Proofs.Ytklmckbpbloonaa
open Go.RowKit

theorem zeroBool (W : World) : (zeroValue 4).run Try.prog W = .ok (.bool false) W := by kernel_rfl
theorem zeroU (W : World) : (zeroValue 31).run Try.prog W = .ok (.int .u32 0) W := by kernel_rfl
theorem zeroI (W : World) : (zeroValue 3).run Try.prog W = .ok (.int .i64 0) W := by kernel_rfl

/-- How many numbers a set of reached ones can hold. -/
theorem reach_len {es : List Edg} {v : Int} {ks : List Int} (hn : ks.Nodup) (h : ∀ k ∈ ks, Conn es v k) : ks.length ≤ 2 * es.length + 1 := by
  have hsub : ∀ k ∈ ks, k ∈ v :: es.flatMap fun e => [e.2.1, e.2.2] := by
    intro k hk
    rcases (h k hk).mem with rfl | ⟨e, he, h1⟩
    · exact List.mem_cons_self
    · refine List.mem_cons_of_mem _ (List.mem_flatMap.2 ⟨e, he, ?_⟩)
      rcases h1 with rfl | rfl <;> simp
  have hle : ks.length ≤ (v :: es.flatMap fun e => [e.2.1, e.2.2]).length := List.Nodup.length_le_of_subset hn hsub
  have h2 : (es.flatMap fun e => [e.2.1, e.2.2]).length = 2 * es.length := by
    clear hsub hle h
    induction es with
    | nil => rfl
    | cons e es ih => simp only [List.flatMap_cons, List.length_append, List.length_cons, List.length_nil, ih]; omega
  simp only [List.length_cons] at hle
  omega

theorem hasB_iff {ks : List Int} {x : Int} : hasB ks x = true ↔ x ∈ ks := by simp [hasB]
theorem hasB_not {ks : List Int} {x : Int} : hasB ks x = false ↔ x ∉ ks := by simp [hasB]
/-- What of a list a set has. -/
def inTo (vs ks : List Int) (k : Nat) : List Int := (vs.take k).filter fun x => hasB ks x
theorem inTo_succ {vs ks : List Int} {k : Nat} {x : Int} (h : vs[k]? = some x) : inTo vs ks (k + 1) = inTo vs ks k ++ if hasB ks x then [x] else [] := by
  unfold inTo; rw [take_at h, List.filter_append]; simp only [List.filter_cons, List.filter_nil]
theorem inTo_len (vs ks : List Int) (k : Nat) : (inTo vs ks k).length ≤ k := by
  unfold inTo
  have h1 := List.length_filter_le (fun x => hasB ks x) (vs.take k)
  have h2 := List.length_take_le k vs
  omega
def partLen (vs : List Int) (es : List Edg) (v : Int) : Nat := (partL vs es v).length
theorem inTo_part {vs ks : List Int} {es : List Edg} {v : Int} {n : Nat} (hn : vs.length = n) (hv : v ∈ ks) (hr : ∀ k ∈ ks, Conn es v k) (hc : ∀ e ∈ es, (e.2.1 ∈ ks ↔ e.2.2 ∈ ks)) : inTo vs ks n = partL vs es v := by
  unfold inTo partL
  rw [List.take_of_length_le (by omega)]
  refine List.filter_congr fun x _ => ?_
  rw [Bool.eq_iff_iff, hasB_iff, beq_iff_eq]
  constructor
  · intro h; exact (lab_iff.2 (hr x h)).symm
  · intro h; exact lab_iff.1 h.symm (fun z => z ∈ ks) hv hc

theorem own_map_ne {w : World} {e : TypeId} {size n c : Nat} {r : Option Nat} {A : Option Addr} {xs : List Value} (h : Own w e size r A n c xs) {α : Type} {b : Nat} {q : IntKind} {enc : α → Value} {m : List (Int × α)} (hm : MapOf w b q enc m) : some b ≠ r := by
  intro e
  obtain ⟨cur, hh⟩ := h.block e.symm
  exact hm.ne_cells hh rfl

set_option maxRecDepth 100000 in
set_option maxHeartbeats 2000000 in
theorem rpart_any (B : Nat) (A A' : Option Addr) (n c n' c' : Nat) (vs : List Int) (es : List Edg) (v : Int) (w : World) (h : RdU w B A n c vs) (h' : RdE w B A' n' c' es) (hn : n ≤ 1000000) (hB : B ≤ w.heap.size) :
    Calls Try.prog 58 #[.agg #[.slice A n c, .slice A' n' c'], .int .u32 v] w fun e w' => ∃ r A2 c2, e = .returned (.slice A2 (partLen vs es v) c2) ∧ OwnU w' r A2 (partLen vs es v) c2 (partL vs es v) ∧ Below w.heap.size w w' ∧ (∀ g, r = some g → w.heap.size ≤ g) := by
  have HL := Lib.hid h.len
  have HL' := Lib.hid h'.len
  obtain ⟨hnc, hc⟩ := h.bd
  obtain ⟨hnc', hc'⟩ := h'.bd
  have hmm := @run_makeMap Try.prog
  have hb1 : Below w.heap.size w ((w.alloc (.cells #[.slice A n c, .slice A' n' c'] 25)).alloc (.map #[] 0)) := ((Below.refl _ _).alloc (Nat.le_refl _) _).alloc (by simp) _
  have HB := Lib.hid hb1
  have hG0 := (Blk.new w 25 #[.slice A n c, .slice A' n' c']).alloc (.map #[] 0)
  have hM0 := MapOf.made (w.alloc (.cells #[.slice A n c, .slice A' n' c'] 25)) .u32 Value.bool
  simp only [World.size_alloc] at hM0
  have HG0 := Lib.hid hG0
  have HM0 : Hid (IsSet ((w.alloc (.cells #[.slice A n c, .slice A' n' c'] 25)).alloc (.map #[] 0)) (w.heap.size + 1) .u32 []) := hM0
  clear hb1 hG0 hM0
  go_enter Try.func58, Try.ntmps58
  go_wp2_with (refine wpList_sins rfl (.tmp 12) (.tmp 13) _ _ 31 4 rfl Try.underlying60 Try.underlying31 v HM0.out rfl rfl rfl ?_; intro w1 k1 k2 k3)
  have hb2 := HB.out.grown k2 (by simp; omega) (by intro g hg; cases hg; omega)
  have hg2 := HG0.out.grown k2 (by simp)
  have HB2 := Lib.hid hb2
  have HG2 := Lib.hid hg2
  clear hb2 hg2 k2 k3
  go_loopg [6] (4 * n' + 8) (fun m gr wr => ∃ (ks : List Int) (g : Bool), gr = .bool g ∧ IsSet wr (w.heap.size + 1) .u32 ks ∧ Hid (v ∈ ks ∧ (∀ k ∈ ks, Conn es v k) ∧ 2 * (2 * n' + 1 - ks.length) + (if g then 1 else 0) < m ∧ (g = false → ∀ e ∈ es, (e.2.1 ∈ ks ↔ e.2.2 ∈ ks))) ∧
      Below w.heap.size w wr ∧ Blk wr w.heap.size 25 #[.slice A n c, .slice A' n' c'])
  case atStart =>
    refine ⟨[v], true, rfl, k1, ⟨by simp, fun k hk => ?_, by simp; omega, fun h => by cases h⟩, HB2.out, HG2.out⟩
    simp at hk; subst hk; exact Conn.refl _ _
  case round =>
    obtain ⟨ks, g, rfl, hset, HI, hbr, hG⟩ := hrel
    clear k1
    obtain ⟨hg0, hg1⟩ := hG.c2
    have hsz := hG.lt
    have hszm := MapOf.lt hset
    cases g
    · -- nothing grew: what the set has of the vertices
      have hcl : Hid (inTo vs ks n = partL vs es v) := inTo_part HL.out HI.out.1 HI.out.2.1 (HI.out.2.2.2 rfl)
      clear HI
      go_wp2
      go_loopw [9, 42] (fun o i w2 => ∃ (k : Nat) (r : Option Nat) (A2 : Option Addr) (c2 : Nat), k ≤ n ∧ i = .int .i64 k ∧ o = .slice A2 (inTo vs ks k).length c2 ∧ OwnU w2 r A2 (inTo vs ks k).length c2 (inTo vs ks k) ∧ Below w.heap.size w w2 ∧
          (∀ g, r = some g → w.heap.size ≤ g) ∧ IsSet w2 (w.heap.size + 1) .u32 ks) (fun _ i _ => n - (intOf i).toNat)
      case atStart => exact ⟨0, none, none, 0, by omega, rfl, by simp [inTo], by simpa [inTo] using OwnU.nil_ _ _, hbr, by simp, hset⟩
      case round =>
        obtain ⟨k, r, A2, c2, hk, rfl, rfl, hown, hb2, hrg, hs2⟩ := hrel
        clear hset hsz hszm hG hg0 hg1
        have hq := h.below (hb2.mono hB)
        by_cases hlt : k < n
        · obtain ⟨ad, x, rfl, hbl, hx, hxb, hc1⟩ := hq.at_ hlt
          have HS : Hid (inTo vs ks (k + 1) = inTo vs ks k ++ if hasB ks x then [x] else []) := inTo_succ hx
          have hle := inTo_len vs ks k
          clear hx
          cases hin : hasB ks x
          · have HIN := Lib.hid hin
            clear hin
            have HO := Lib.hid hown
            have HS2 := Lib.hid hs2
            clear hown hs2
            go_wp2_with (refine wpList_slook rfl (.tmp 46) (.tmp 47) _ 31 4 rfl Try.underlying60 Try.underlying31 zeroBool x HS2.out rfl rfl ?_; rw [HIN.out])
            go_roundw
            case rel =>
              have e1 : inTo vs ks (k + 1) = inTo vs ks k := by rw [HS.out, HIN.out]; simp
              exact ⟨k + 1, r, A2, c2, by omega, by go_num, by rw [e1], by rw [e1]; exact HO.out, hb2, hrg, HS2.out⟩
            case measure => simp [intOf]; omega
          · have HIN := Lib.hid hin
            clear hin
            have HO := Lib.hid (hown.alloc (.cells #[.int .u32 x] 31))
            have HS2 := Lib.hid hs2
            have HS3 : Hid (IsSet (wr.alloc (.cells #[.int .u32 x] 31)) (w.heap.size + 1) .u32 ks) := MapOf.alloc hs2 _
            have HBX := Lib.hid (Blk.new wr 31 #[.int .u32 x])
            have HB3 := Lib.hid (hb2.alloc hb2.size (.cells #[.int .u32 x] 31))
            clear hown hs2
            go_wp2_with (first | (refine wpList_slook rfl (.tmp 46) (.tmp 47) _ 31 4 rfl Try.underlying60 Try.underlying31 zeroBool x HS2.out rfl rfl ?_; rw [HIN.out]) | (at_builtin; refine appU1 rfl (.tmp 49) (.tmp 51) rfl _ _ _ _ _ _ rfl HO.out _ _ rfl HBX.out hxb (by omega) ?_; intro r1 A1 c1 w3 m1 m2 m3))
            go_roundw
            case rel =>
              have e1 : inTo vs ks (k + 1) = inTo vs ks k ++ [x] := by rw [HS.out, HIN.out]; simp
              have e2 : (inTo vs ks k ++ [x]).length = (inTo vs ks k).length + 1 := by simp
              refine ⟨k + 1, r1, A1, c1, by omega, by go_num, by rw [e1, e2], by rw [e1, e2]; exact m1, HB3.out.grown m2 (by have := hb2.size; simp; omega) hrg, new_row m3 hrg (by have := hb2.size; simp; omega), MapOf.grown HS3.out m2 (own_map_ne HO.out.1.1 HS3.out)⟩
            case measure => simp [intOf]; omega
        · obtain rfl : k = n := by omega
          rw [hcl.out] at hown
          rw [hcl.out]
          go_wp2
          go_ret
          exact ⟨r, A2, c2, rfl, hown, hb2, hrg⟩
    · -- once more through the edges
      have hi := HI.out
      have HI1 : Hid (2 * (2 * n' + 1 - ks.length) + 1 < gk) := by show _ < _; simpa using hi.2.2.1
      have HR0 : Hid (ks.length ≤ 2 * n' + 1) := by show _ ≤ _; have := reach_len hset.nodup hi.2.1; rw [HL'.out] at this; exact this
      go_wp2
      go_loopw [6, 19] (fun gr i w2 => ∃ (j : Nat) (ks2 : List Int) (g2 : Bool), j ≤ n' ∧ i = .int .i64 j ∧ gr = .bool g2 ∧ IsSet w2 (w.heap.size + 1) .u32 ks2 ∧
          Hid (v ∈ ks2 ∧ (∀ k ∈ ks2, Conn es v k) ∧ (g2 = false → ks2 = ks ∧ ∀ i e, i < j → es[i]? = some e → (e.2.1 ∈ ks ↔ e.2.2 ∈ ks)) ∧ (g2 = true → ks.length < ks2.length)) ∧
          Below w.heap.size w w2 ∧ Blk w2 w.heap.size 25 #[.slice A n c, .slice A' n' c']) (fun _ i _ => n' - (intOf i).toNat)
      case atStart => exact ⟨0, ks, false, by omega, rfl, rfl, hset, ⟨hi.1, hi.2.1, fun _ => ⟨rfl, fun i e hi => absurd hi (by omega)⟩, fun h => by cases h⟩, hbr, hG⟩
      case round =>
        obtain ⟨j, ks2, g2, hj, rfl, rfl, hs2, HJ, hb2, hG2⟩ := hrel
        clear hset hsz hszm hG hg0 hg1 HI
        have hq' := h'.below (hb2.mono hB)
        obtain ⟨hg0, hg1⟩ := hG2.c2
        have hsz := hG2.lt
        have hszm := MapOf.lt hs2
        by_cases hlt : j < n'
        · obtain ⟨ad, x, rfl, hbl, hx, hxb, hc1, hc2, hc3⟩ := hq'.at_ hlt
          have HX := Lib.hid hx
          have hmem := List.mem_of_getElem? hx
          have HC : Hid (Conn es x.2.1 x.2.2) := Conn.edge hmem
          clear hx hmem
          have HBX := Lib.hid (hb2.alloc hb2.size (.cells #[.int .u32 x.1, .int .u32 x.2.1, .int .u32 x.2.2] 39))
          have HGX := Lib.hid (hG2.alloc (.cells #[.int .u32 x.1, .int .u32 x.2.1, .int .u32 x.2.2] 39))
          have HXX := Lib.hid (Blk.new wr 39 #[.int .u32 x.1, .int .u32 x.2.1, .int .u32 x.2.2])
          have HSX : Hid (IsSet (wr.alloc (.cells #[.int .u32 x.1, .int .u32 x.2.1, .int .u32 x.2.2] 39)) (w.heap.size + 1) .u32 ks2) := MapOf.alloc hs2 _
          clear hs2 hb2
          have same : hasB ks2 x.2.1 = hasB ks2 x.2.2 → Hid (v ∈ ks2 ∧ (∀ k ∈ ks2, Conn es v k) ∧ (g2 = false → ks2 = ks ∧ ∀ i e, i < j + 1 → es[i]? = some e → (e.2.1 ∈ ks ↔ e.2.2 ∈ ks)) ∧ (g2 = true → ks.length < ks2.length)) := by
            intro hsame
            refine ⟨HJ.out.1, HJ.out.2.1, fun hg => ⟨(HJ.out.2.2.1 hg).1, fun i e hi he => ?_⟩, HJ.out.2.2.2⟩
            by_cases eij : i = j
            · subst eij
              rw [HX.out] at he; injection he with he; subst he
              rw [← (HJ.out.2.2.1 hg).1, ← hasB_iff, ← hasB_iff, hsame]
            · exact (HJ.out.2.2.1 hg).2 i e (by omega) he
          have HSM := Lib.hid same
          clear same
          cases ha : hasB ks2 x.2.1 <;> cases hb : hasB ks2 x.2.2
          · have HA := Lib.hid ha
            have HBB := Lib.hid hb
            clear ha hb
            go_wp2_with (first | (refine wpList_slook rfl (.tmp 23) (.tmp 25) _ 31 4 rfl Try.underlying60 Try.underlying31 zeroBool x.2.1 HSX.out rfl rfl ?_; rw [HA.out]) | (refine wpList_slook rfl (.tmp 27) (.tmp 29) _ 31 4 rfl Try.underlying60 Try.underlying31 zeroBool x.2.2 HSX.out rfl rfl ?_; rw [HBB.out]))
            go_roundw
            case rel => exact ⟨j + 1, ks2, g2, by omega, by go_num, rfl, HSX.out, HSM.out (by rw [HA.out, HBB.out]), HBX.out, HGX.out⟩
            case measure => simp [intOf]; omega
          · have HA := Lib.hid ha
            have HBB := Lib.hid hb
            clear ha hb
            have hks : Hid (ks.length ≤ ks2.length) := by
              show _ ≤ _
              cases g2
              · rw [(HJ.out.2.2.1 rfl).1]; exact Nat.le_refl _
              · exact Nat.le_of_lt (HJ.out.2.2.2 rfl)
            go_wp2_with (first | (refine wpList_slook rfl (.tmp 23) (.tmp 25) _ 31 4 rfl Try.underlying60 Try.underlying31 zeroBool x.2.1 HSX.out rfl rfl ?_; rw [HA.out]) | (refine wpList_slook rfl (.tmp 27) (.tmp 29) _ 31 4 rfl Try.underlying60 Try.underlying31 zeroBool x.2.2 HSX.out rfl rfl ?_; rw [HBB.out]) | (refine wpList_sput rfl (.tmp 32) (.tmp 34) _ _ 31 4 rfl Try.underlying60 Try.underlying31 x.2.1 HSX.out rfl rfl rfl ?_; intro w3 k1 k2 k3; have hX3 := HXX.out.grown k2 (by simp; omega); obtain ⟨p1, p2, p3⟩ := hX3.c3) | (refine wpList_sput rfl (.tmp 35) (.tmp 37) _ _ 31 4 rfl Try.underlying60 Try.underlying31 x.2.2 k1 rfl rfl rfl ?_; intro w4 m1 m2 m3))
            go_roundw
            case rel =>
              refine ⟨j + 1, addK (addK ks2 x.2.1) x.2.2, true, by omega, by go_num, rfl, m1, ⟨?_, ?_, fun h => (by cases h), fun _ => ?_⟩, (HBX.out.grown k2 (by have := HBX.out.size; omega) (by intro g hg; cases hg; omega)).grown m2 (by have := HBX.out.size; omega) (by intro g hg; cases hg; omega), (HGX.out.grown k2 (by simp)).grown m2 (by simp)⟩
              · exact mem_addK.2 (.inl (mem_addK.2 (.inl HJ.out.1)))
              · intro k hk
                have hbk := HJ.out.2.1 _ (hasB_iff.1 HBB.out)
                rcases mem_addK.1 hk with hk | rfl
                · rcases mem_addK.1 hk with hk | rfl
                  · exact HJ.out.2.1 k hk
                  · exact hbk.trans HC.out.symm
                · exact hbk
              · have h1 := len_addK ks2 x.2.1
                have h2 := len_addK (addK ks2 x.2.1) x.2.2
                have h3 := hks.out
                have h4 := h1.2.2 (hasB_not.1 HA.out); omega
            case measure => simp [intOf]; omega
          · have HA := Lib.hid ha
            have HBB := Lib.hid hb
            clear ha hb
            have hks : Hid (ks.length ≤ ks2.length) := by
              show _ ≤ _
              cases g2
              · rw [(HJ.out.2.2.1 rfl).1]; exact Nat.le_refl _
              · exact Nat.le_of_lt (HJ.out.2.2.2 rfl)
            go_wp2_with (first | (refine wpList_slook rfl (.tmp 23) (.tmp 25) _ 31 4 rfl Try.underlying60 Try.underlying31 zeroBool x.2.1 HSX.out rfl rfl ?_; rw [HA.out]) | (refine wpList_slook rfl (.tmp 27) (.tmp 29) _ 31 4 rfl Try.underlying60 Try.underlying31 zeroBool x.2.2 HSX.out rfl rfl ?_; rw [HBB.out]) | (refine wpList_sput rfl (.tmp 32) (.tmp 34) _ _ 31 4 rfl Try.underlying60 Try.underlying31 x.2.1 HSX.out rfl rfl rfl ?_; intro w3 k1 k2 k3; have hX3 := HXX.out.grown k2 (by simp; omega); obtain ⟨p1, p2, p3⟩ := hX3.c3) | (refine wpList_sput rfl (.tmp 35) (.tmp 37) _ _ 31 4 rfl Try.underlying60 Try.underlying31 x.2.2 k1 rfl rfl rfl ?_; intro w4 m1 m2 m3))
            go_roundw
            case rel =>
              refine ⟨j + 1, addK (addK ks2 x.2.1) x.2.2, true, by omega, by go_num, rfl, m1, ⟨?_, ?_, fun h => (by cases h), fun _ => ?_⟩, (HBX.out.grown k2 (by have := HBX.out.size; omega) (by intro g hg; cases hg; omega)).grown m2 (by have := HBX.out.size; omega) (by intro g hg; cases hg; omega), (HGX.out.grown k2 (by simp)).grown m2 (by simp)⟩
              · exact mem_addK.2 (.inl (mem_addK.2 (.inl HJ.out.1)))
              · intro k hk
                have hak := HJ.out.2.1 _ (hasB_iff.1 HA.out)
                rcases mem_addK.1 hk with hk | rfl
                · rcases mem_addK.1 hk with hk | rfl
                  · exact HJ.out.2.1 k hk
                  · exact hak
                · exact hak.trans HC.out
              · have h1 := len_addK ks2 x.2.1
                have h2 := len_addK (addK ks2 x.2.1) x.2.2
                have h3 := hks.out
                have h4 := h2.2.2 (fun hc => by
                  rcases mem_addK.1 hc with hc | hc
                  · exact hasB_not.1 HBB.out hc
                  · exact hasB_not.1 HBB.out (hc ▸ hasB_iff.1 HA.out))
                omega
            case measure => simp [intOf]; omega
          · have HA := Lib.hid ha
            have HBB := Lib.hid hb
            clear ha hb
            go_wp2_with (first | (refine wpList_slook rfl (.tmp 23) (.tmp 25) _ 31 4 rfl Try.underlying60 Try.underlying31 zeroBool x.2.1 HSX.out rfl rfl ?_; rw [HA.out]) | (refine wpList_slook rfl (.tmp 27) (.tmp 29) _ 31 4 rfl Try.underlying60 Try.underlying31 zeroBool x.2.2 HSX.out rfl rfl ?_; rw [HBB.out]))
            go_roundw
            case rel => exact ⟨j + 1, ks2, g2, by omega, by go_num, rfl, HSX.out, HSM.out (by rw [HA.out, HBB.out]), HBX.out, HGX.out⟩
            case measure => simp [intOf]; omega
        · obtain rfl : j = n' := by omega
          go_wp2
          go_roundg (2 * (2 * j + 1 - ks2.length) + (if g2 then 1 else 0) + 1)
          case measure =>
            have h1 := HI1.out
            have h2 := HR0.out
            cases g2
            · rw [(HJ.out.2.2.1 rfl).1]; simp; omega
            · have h3 := HJ.out.2.2.2 rfl
              have h4 := reach_len hs2.nodup HJ.out.2.1
              have h5 := HL'.out
              simp; omega
          case rel => exact ⟨ks2, g2, rfl, hs2, ⟨HJ.out.1, HJ.out.2.1, by omega, fun hg e he => by
              obtain ⟨i, hi, e1⟩ := List.mem_iff_getElem.1 he
              have := (HJ.out.2.2.1 hg).2 i e (by have := HL'.out; omega) (by rw [List.getElem?_eq_getElem hi, e1])
              rwa [(HJ.out.2.2.1 hg).1]⟩, hb2, hG2⟩

set_option maxRecDepth 100000 in
set_option maxHeartbeats 2000000 in
theorem rparts_any (B : Nat) (A A' : Option Addr) (n c n' c' : Nat) (vs : List Int) (es : List Edg) (w : World) (h : RdU w B A n c vs) (h' : RdE w B A' n' c' es) (hn : n ≤ 1000000) (hB : B ≤ w.heap.size)
    (hs : vs.Pairwise (· < ·)) (hends : ∀ e ∈ es, e.2.1 ∈ vs ∧ e.2.2 ∈ vs) :
    Calls Try.prog 18 #[.agg #[.slice A n c, .slice A' n' c']] w fun e w' => ∃ r A2 c2, e = .returned (.slice A2 (partsTo vs es n).length c2) ∧ OwnUU w' w.heap.size w'.heap.size r A2 (partsTo vs es n).length c2 (partsTo vs es n) ∧ Below w.heap.size w w' := by
  obtain ⟨hnc, hc⟩ := h.bd
  have HB := Lib.hid ((Below.refl w.heap.size w).alloc (Nat.le_refl _) (.cells #[.slice A n c, .slice A' n' c'] 25))
  have hG0 := Blk.new w 25 #[.slice A n c, .slice A' n' c']
  have HE := Lib.hid hends
  have HSO := Lib.hid hs
  clear hends hs
  go_enter Try.func18, Try.ntmps18
  go_wp2
  go_loopw [3, 10] (fun o i wr => ∃ (k : Nat) (r : Option Nat) (A2 : Option Addr) (c2 : Nat), k ≤ n ∧ i = .int .i64 k ∧ o = .slice A2 (partsTo vs es k).length c2 ∧ OwnUU wr w.heap.size wr.heap.size r A2 (partsTo vs es k).length c2 (partsTo vs es k) ∧ Below w.heap.size w wr ∧ Blk wr w.heap.size 25 #[.slice A n c, .slice A' n' c']) (fun _ i _ => n - (intOf i).toNat)
  case atStart => exact ⟨0, none, none, 0, by omega, rfl, by simp [partsTo], by simpa [partsTo] using OwnUU.nil_ _ _ _, HB.out, hG0⟩
  case round =>
    obtain ⟨k, r, A2, c2, hk, rfl, rfl, hown, hbr, hG⟩ := hrel
    clear hG0
    have hq := h.below (hbr.mono hB)
    have hq' := h'.below (hbr.mono hB)
    obtain ⟨hg0, hg1⟩ := hG.c2
    have hsz := hG.lt
    by_cases hlt : k < n
    · obtain ⟨ad, x, rfl, hbl, hx, _, hc1⟩ := hq.at_ hlt
      have hmem := List.mem_of_getElem? hx
      have HS : Hid (partsTo vs es (k + 1) = partsTo vs es k ++ if lab es x = x then [partL vs es x] else []) := partsTo_succ hx
      have hle := partsTo_len vs es k
      have HH : Hid ((partL vs es x)[0]? = some (lab es x)) := part_head HSO.out HE.out hmem
      have HPL : Hid (0 < partLen vs es x) := by
        show 0 < _
        unfold partLen
        rcases Nat.eq_zero_or_pos (partL vs es x).length with h0 | h0
        · have := HH.out; rw [List.getElem?_eq_none (by omega)] at this; cases this
        · exact h0
      have HO := Lib.hid hown
      clear hx hmem hown
      by_cases he : lab es x = x
      · have he' : (lab es x == x) = true := by simp [he]
        have HEQ := Lib.hid he
        clear he
        have hB2 : B ≤ wr.heap.size := by have := hbr.size; omega
        go_wp2_with (first | (go_at_call 58; refine (rpart_any B _ _ _ _ _ _ vs es _ _ hq hq' hn hB2).mono ?_; rintro e w1 ⟨r1, A1, c1, rfl, k1, k2, k3⟩; obtain ⟨ad2, y, rfl, _, hy, _, hcy⟩ := k1.rd.at_ (k := 0) HPL.out; rw [Addr.add_zero'] at hcy; obtain rfl : lab es x = y := (by rw [HH.out] at hy; injection hy); clear hy; have hsz1 := k2.size) | (at_builtin; refine appUU1 rfl (.tmp 22) (.tmp 24) rfl _ w.heap.size wr.heap.size _ _ _ _ _ rfl ((HO.out.below k2 (Nat.le_refl _)).alloc hsz1 _) (by simp; omega) hbr.size w1.heap.size (_, _, _) r1 (partL vs es x) rfl (Blk.new _ _ _) (k1.alloc _) k3 (by omega) ?_; intro r3 A3 c3 w3 m1 m2 m3))
        go_roundw
        case rel =>
          have e1 : partsTo vs es (k + 1) = partsTo vs es k ++ [partL vs es x] := by rw [HS.out, if_pos HEQ.out]
          have e2 : (partsTo vs es k ++ [partL vs es x]).length = (partsTo vs es k).length + 1 := by simp
          obtain ⟨hs', rs', p1, p2, p3, _⟩ := HO.out
          have hbb : Below w.heap.size w (w1.alloc (.cells #[.slice (some ad2) (partLen vs es x) c1] 22)) := (hbr.trans (k2.mono hbr.size)).alloc (by have := hbr.size; omega) _
          refine ⟨k + 1, r3, A3, c3, by omega, by go_num, by rw [e1, e2], by rw [e1, e2]; exact m1, hbb.grown m2 hbb.size (fun g hg => (p3 g hg).1), ((hG.below k2 hsz).alloc _).grown m2 (fun e => ?_)⟩
          have h1 := (p3 _ e.symm).1
          obtain ⟨cur, hh⟩ := p1.block e.symm
          exact absurd rfl (Blk.ne_ (t := 22) (cs := cur) hh hG (by decide))
        case measure => simp [intOf]; omega
      · have he' : (lab es x == x) = false := by simp [he]
        have HEQ := Lib.hid he
        clear he
        have hB2 : B ≤ wr.heap.size := by have := hbr.size; omega
        go_wp2_with (first | (go_at_call 58; refine (rpart_any B _ _ _ _ _ _ vs es _ _ hq hq' hn hB2).mono ?_; rintro e w1 ⟨r1, A1, c1, rfl, k1, k2, k3⟩; obtain ⟨ad2, y, rfl, _, hy, _, hcy⟩ := k1.rd.at_ (k := 0) HPL.out; rw [Addr.add_zero'] at hcy; obtain rfl : lab es x = y := (by rw [HH.out] at hy; injection hy); clear hy))
        go_roundw
        case rel =>
          have e1 : partsTo vs es (k + 1) = partsTo vs es k := by rw [HS.out, if_neg HEQ.out]; simp
          exact ⟨k + 1, r, A2, c2, by omega, by go_num, by rw [e1], by rw [e1]; exact (HO.out.below k2 (Nat.le_refl _)).more k2.size, hbr.trans (k2.mono hbr.size), hG.below k2 hsz⟩
        case measure => simp [intOf]; omega
    · obtain rfl : k = n := by omega
      go_wp2
      go_ret
      exact ⟨r, A2, c2, rfl, hown, hbr⟩
end Go.Proofs.Ytklmckbpbloonaa

namespace Go.Proofs.Ytklmckbpbloonaa

def rootsTo (vs : List Int) (es : List Edg) (k : Nat) : List Int := (vs.take k).filter fun v => lab es v == v
def rowTo (vs : List Int) (es : List Edg) (k : Nat) (r : Int) : List Int := (vs.take k).filter fun x => lab es x == r
/-- Behind k vertices. -/
def fillTo (vs : List Int) (es : List Edg) (k : Nat) : List (List Int) := (rootsTo vs es k).map (rowTo vs es k)
/-- Behind k vertices, with the next one's part begun. -/
def fillMid (vs : List Int) (es : List Edg) (k : Nat) : List (List Int) := (rootsTo vs es (k + 1)).map (rowTo vs es k)
def rootsLen (vs : List Int) (es : List Edg) (k : Nat) : Nat := (rootsTo vs es k).length
section
variable {vs : List Int} {es : List Edg} {k : Nat} {v : Int}
theorem rootsLen_le (vs : List Int) (es : List Edg) (k : Nat) : rootsLen vs es k ≤ k := by
  have h1 := List.length_filter_le (fun v => lab es v == v) (vs.take k)
  have h2 := List.length_take_le k vs
  unfold rootsLen rootsTo; omega
theorem fillTo_len (vs : List Int) (es : List Edg) (k : Nat) : (fillTo vs es k).length = rootsLen vs es k := by simp [fillTo, rootsLen]
theorem fillMid_len (vs : List Int) (es : List Edg) (k : Nat) : (fillMid vs es k).length = rootsLen vs es (k + 1) := by simp [fillMid, rootsLen]
theorem rootsTo_succ (h : vs[k]? = some v) : rootsTo vs es (k + 1) = rootsTo vs es k ++ if lab es v = v then [v] else [] := by
  unfold rootsTo; rw [take_at h, List.filter_append]
  congr 1
  by_cases e : lab es v = v
  · rw [if_pos e]; simp [e]
  · rw [if_neg e]; simp [e]
theorem rowTo_succ (h : vs[k]? = some v) (r : Int) : rowTo vs es (k + 1) r = rowTo vs es k r ++ if lab es v = r then [v] else [] := by
  unfold rowTo; rw [take_at h, List.filter_append]
  congr 1
  by_cases e : lab es v = r
  · rw [if_pos e]; simp [e]
  · rw [if_neg e]; simp [e]
theorem lt_of_take (hs : vs.Pairwise (· < ·)) (h : vs[k]? = some v) {x : Int} (hx : x ∈ vs.take k) : x < v := by
  obtain ⟨i, hi, e⟩ := List.mem_iff_getElem.1 hx
  have hik : i < k := by rw [List.length_take] at hi; omega
  rw [List.getElem_take] at e
  obtain ⟨hkl, e2⟩ := List.getElem?_eq_some_iff.1 h
  have := List.pairwise_iff_getElem.1 hs i k (by omega) hkl hik
  omega
theorem rowTo_new (hs : vs.Pairwise (· < ·)) (h : vs[k]? = some v) : rowTo vs es k v = [] := by
  unfold rowTo
  rw [List.filter_eq_nil_iff]
  intro x hx
  have h1 := lt_of_take hs h hx
  have h2 := lab_le es x
  simp only [beq_iff_eq]; omega
theorem fillMid_new (hs : vs.Pairwise (· < ·)) (h : vs[k]? = some v) (hr : lab es v = v) : fillMid vs es k = fillTo vs es k ++ [[]] := by
  unfold fillMid fillTo
  rw [rootsTo_succ h, if_pos hr, List.map_append, List.map_singleton, rowTo_new hs h]
theorem fillMid_old (h : vs[k]? = some v) (hr : ¬ lab es v = v) : fillMid vs es k = fillTo vs es k := by
  unfold fillMid fillTo
  rw [rootsTo_succ h, if_neg hr, List.append_nil]
theorem rootsTo_nodup (hs : vs.Pairwise (· < ·)) (k : Nat) : (rootsTo vs es k).Nodup := by
  have h1 : (rootsTo vs es k).Pairwise (· < ·) := hs.sublist (List.filter_sublist.trans (List.take_sublist k vs))
  exact h1.imp fun h => by omega
theorem root_at (hs : vs.Pairwise (· < ·)) (hends : ∀ e ∈ es, e.2.1 ∈ vs ∧ e.2.2 ∈ vs) (h : vs[k]? = some v) : ∃ i : Nat, (rootsTo vs es (k + 1))[i]? = some (lab es v) ∧ i < rootsLen vs es (k + 1) := by
  have hm : lab es v ∈ rootsTo vs es (k + 1) := by
    unfold rootsTo
    rw [List.mem_filter, lab_lab]
    refine ⟨?_, by simp⟩
    rw [take_at h]
    have hv : v ∈ vs := List.mem_of_getElem? h
    have h1 := lab_mem hends hv
    have h2 := lab_le es v
    obtain ⟨i, hi, e⟩ := List.mem_iff_getElem.1 h1
    obtain ⟨hkl, e2⟩ := List.getElem?_eq_some_iff.1 h
    rcases Nat.lt_trichotomy i k with hik | hik | hik
    · exact List.mem_append_left _ (List.mem_iff_getElem.2 ⟨i, by rw [List.length_take]; omega, by rw [List.getElem_take]; exact e⟩)
    · subst hik; rw [← e, e2]; simp
    · have := List.pairwise_iff_getElem.1 hs k i hkl hi hik
      omega
  obtain ⟨i, hi, e⟩ := List.mem_iff_getElem.1 hm
  exact ⟨i, by rw [List.getElem?_eq_getElem hi, e], hi⟩
theorem fillTo_succ (hs : vs.Pairwise (· < ·)) (h : vs[k]? = some v) {i : Nat} (hi : (rootsTo vs es (k + 1))[i]? = some (lab es v)) : fillTo vs es (k + 1) = (fillMid vs es k).set i (rowTo vs es k (lab es v) ++ [v]) := by
  unfold fillTo fillMid
  apply List.ext_getElem?
  intro j
  rw [List.getElem?_set, List.getElem?_map, List.getElem?_map]
  have hil : i < (rootsTo vs es (k + 1)).length := (List.getElem?_eq_some_iff.1 hi).1
  by_cases hij : i = j
  · subst hij
    rw [if_pos rfl, if_pos (by simpa using hil), hi]
    simp [rowTo_succ h]
  · rw [if_neg hij]
    cases hj : (rootsTo vs es (k + 1))[j]? with
    | none => rfl
    | some r =>
      simp only [Option.map_some]
      rw [rowTo_succ h, if_neg, List.append_nil]
      rintro rfl
      obtain ⟨hjl, e1⟩ := List.getElem?_eq_some_iff.1 hj
      obtain ⟨_, e2⟩ := List.getElem?_eq_some_iff.1 hi
      exact hij ((List.getElem_inj (rootsTo_nodup hs _)).1 (e2.trans e1.symm))
theorem fillMid_at {i : Nat} (hi : (rootsTo vs es (k + 1))[i]? = some v) : (fillMid vs es k)[i]? = some (rowTo vs es k v) := by
  unfold fillMid; rw [List.getElem?_map, hi]; rfl
theorem fillTo_all (vs : List Int) (es : List Edg) {n : Nat} (hn : vs.length = n) : fillTo vs es n = partsTo vs es n := by
  subst hn
  unfold fillTo partsTo rootsTo rowTo
  rw [List.take_length]
theorem rowTo_len (vs : List Int) (es : List Edg) (k : Nat) (r : Int) : (rowTo vs es k r).length ≤ k := by
  have h1 := List.length_filter_le (fun x => lab es x == r) (vs.take k)
  have h2 := List.length_take_le k vs
  unfold rowTo; omega
end
end Go.Proofs.Ytklmckbpbloonaa

namespace Go.Proofs.Ytklmckbpbloonaa
open Go.RowKit

def encU32 : Int → Value := Value.int .u32
def encI64 : Int → Value := Value.int .i64
/-- The labels behind the first k edges. -/
def labTo (es : List Edg) (k : Nat) : Int → Int := lab (es.take k)
theorem labTo_succ {es : List Edg} {k : Nat} {e : Edg} (h : es[k]? = some e) : labTo es (k + 1) = lstep (labTo es k) e := labF_take_succ h id
theorem labTo_all (es : List Edg) : labTo es es.length = lab es := by unfold labTo; rw [List.take_length]
/-- In the middle of a round: those that are still to come bear the old label. -/
def midF (f g : Int → Int) (left : List Int) : Int → Int := fun v => if v ∈ left then f v else g v
theorem mid_keep {f g : Int → Int} {left : List Int} {y : Int} (hn : left.Nodup) (h : g y = f y) : midF f g (left.erase y) = midF f g left := by
  funext v
  unfold midF
  by_cases hv : v = y
  · subst hv
    rw [if_neg (by rw [hn.mem_erase_iff]; simp), h]; simp
  · have : v ∈ left.erase y ↔ v ∈ left := by rw [hn.mem_erase_iff]; simp [hv]
    simp only [this]
theorem mid_put {f g : Int → Int} {vs left : List Int} {y : Int} (hn : left.Nodup) (hy : y ∈ vs) : mput (mapF vs (midF f g left)) y (g y) = mapF vs (midF f g (left.erase y)) := by
  rw [mput_mapF _ hy]
  refine mapF_congr fun v _ => ?_
  unfold midF
  by_cases hv : v = y
  · subst hv
    rw [if_pos rfl, if_neg (by rw [hn.mem_erase_iff]; simp)]
  · have : v ∈ left.erase y ↔ v ∈ left := by rw [hn.mem_erase_iff]; simp [hv]
    simp only [this, if_neg hv]
theorem mid_get {f g : Int → Int} {vs left : List Int} {y v : Int} (hy : y ∈ left) (h : mget (mapF vs (midF f g left)) y = some v) : y ∈ vs ∧ v = f y := by
  rw [mget_mapF] at h
  split at h
  · rename_i hm; refine ⟨hm, ?_⟩; injection h with h; rw [← h]; unfold midF; rw [if_pos hy]
  · cases h

set_option maxRecDepth 100000 in
set_option maxHeartbeats 4000000 in
theorem parts_any (B : Nat) (A A' : Option Addr) (n c n' c' : Nat) (vs : List Int) (es : List Edg) (w : World) (h : RdU w B A n c vs) (h' : RdE w B A' n' c' es) (hn : n ≤ 1000000) (hB : B ≤ w.heap.size)
    (hs : vs.Pairwise (· < ·)) (hends : ∀ e ∈ es, e.2.1 ∈ vs ∧ e.2.2 ∈ vs) :
    Calls Try.prog 17 #[.agg #[.slice A n c, .slice A' n' c']] w fun e w' => ∃ r A2 c2, e = .returned (.slice A2 (partsTo vs es n).length c2) ∧ OwnUU w' w.heap.size w'.heap.size r A2 (partsTo vs es n).length c2 (partsTo vs es n) ∧ Below w.heap.size w w' := by
  obtain ⟨hnc, hc⟩ := h.bd
  obtain ⟨hnc', hc'⟩ := h'.bd
  have HL := Lib.hid h.len
  have HL' := Lib.hid h'.len
  have HND : Hid vs.Nodup := hs.imp fun h => by omega
  have HE := Lib.hid hends
  have HSO := Lib.hid hs
  clear hends hs
  have hmm := @run_makeMap Try.prog
  have HB := Lib.hid (((Below.refl w.heap.size w).alloc (Nat.le_refl _) (.cells #[.slice A n c, .slice A' n' c'] 25)).alloc (by simp) (.map #[] 0))
  have HG0 := Lib.hid ((Blk.new w 25 #[.slice A n c, .slice A' n' c']).alloc (.map #[] 0))
  have hM0 := MapOf.made (w.alloc (.cells #[.slice A n c, .slice A' n' c'] 25)) .u32 encU32
  simp only [World.size_alloc] at hM0
  have HM0 := Lib.hid hM0
  clear hM0
  go_enter Try.func17, Try.ntmps17
  go_wp2
  -- each vertex bears its own number
  go_loopw [21] (fun i wr => ∃ k : Nat, k ≤ n ∧ i = .int .i64 k ∧ MapOf wr (w.heap.size + 1) .u32 encU32 (mapF (vs.take k) id) ∧ Below w.heap.size w wr ∧ Blk wr w.heap.size 25 #[.slice A n c, .slice A' n' c']) (fun i _ => n - (intOf i).toNat)
  case atStart => exact ⟨0, by omega, rfl, HM0.out, HB.out, HG0.out⟩
  case round =>
    obtain ⟨k, hk, rfl, hM, hbr, hG⟩ := hrel
    have hq := h.below (hbr.mono hB)
    obtain ⟨hg0, hg1⟩ := hG.c2
    have hsz := hG.lt
    by_cases hlt : k < n
    · obtain ⟨ad, x, rfl, hbl, hx, hxb, hc1⟩ := hq.at_ hlt
      have HS : Hid (mput (mapF (vs.take k) id) x x = mapF (vs.take (k + 1)) id) := by
        show _ = _
        rw [take_at hx]
        refine mput_mapF_new id fun hm => ?_
        obtain ⟨i, hi, e1⟩ := List.mem_iff_getElem.1 hm
        have hil : i < k := by rw [List.length_take] at hi; omega
        rw [List.getElem_take] at e1
        obtain ⟨hkl, e2⟩ := List.getElem?_eq_some_iff.1 hx
        have := (List.getElem_inj HND.out).1 (e1.trans e2.symm)
        omega
      have HMM := Lib.hid hM
      clear hx hM
      go_wp2_with (refine wpList_mput rfl (.tmp 25) (.tmp 26) (.tmp 27) _ 31 31 rfl Try.underlying79 Try.underlying31 x x HMM.out rfl rfl rfl ?_; intro w2 k1 k2 k3)
      go_roundw
      case rel => exact ⟨k + 1, by omega, by go_num, by rw [← HS.out]; exact k1, hbr.grown k2 hbr.size (by intro g hg; cases hg; omega), hG.grown k2 (by simp)⟩
      case measure => simp [intOf]; omega
    · obtain rfl : k = n := by omega
      have hM' : MapOf wr (w.heap.size + 1) .u32 encU32 (mapF vs (labTo es 0)) := by rw [List.take_of_length_le (by have := HL.out; omega)] at hM; exact hM
      clear hM HM0 HG0 HB
      obtain ⟨wo, rfl⟩ : ∃ wo : World, wo = wr := ⟨_, rfl⟩
      go_wp2
      -- each edge
      go_loopw [32] (fun i wr => ∃ j : Nat, j ≤ n' ∧ i = .int .i64 j ∧ MapOf wr (w.heap.size + 1) .u32 encU32 (mapF vs (labTo es j)) ∧ Below w.heap.size w wr ∧ Blk wr w.heap.size 25 #[.slice A k c, .slice A' n' c']) (fun i _ => n' - (intOf i).toNat)
      case atStart => exact ⟨0, by omega, rfl, hM', hbr, hG⟩
      case round =>
        clear hM' hbr hG hq hg0 hg1 hsz
        obtain ⟨j, hj, rfl, hM, hbr, hG⟩ := hrel
        have hq := h'.below (hbr.mono hB)
        obtain ⟨hg0, hg1⟩ := hG.c2
        have hsz := hG.lt
        by_cases hlt2 : j < n'
        · obtain ⟨ad, x, rfl, hbl, hx, hxb, hc1, hc2, hc3⟩ := hq.at_ hlt2
          have HST : Hid (labTo es (j + 1) = lstep (labTo es j) x) := labTo_succ hx
          have hmem := HE.out x (List.mem_of_getElem? hx)
          clear hx
          obtain ⟨w1, rfl⟩ : ∃ w1 : World, w1 = wr := ⟨_, rfl⟩
          have HMX := Lib.hid (hM.alloc (.cells #[.int .u32 x.1, .int .u32 x.2.1, .int .u32 x.2.2] 39))
          have hlA : ∀ q, (Instr.lookup 79 (.map (some (w.heap.size + 1))) (.int .u32 x.2.1) false).run Try.prog ((w1.alloc (.cells #[.int .u32 x.1, .int .u32 x.2.1, .int .u32 x.2.2] 39)).drewN q) = .ok (.int .u32 (labTo es j x.2.1)) ((w1.alloc (.cells #[.int .u32 x.1, .int .u32 x.2.1, .int .u32 x.2.2] 39)).drewN q) := fun q => by
            have := (HMX.out.drewN q).lookup Try.underlying79 Try.underlying31 (zeroU _) x.2.1
            rw [mget_mapF, if_pos hmem.1] at this; exact this
          have hlB : ∀ q, (Instr.lookup 79 (.map (some (w.heap.size + 1))) (.int .u32 x.2.2) false).run Try.prog ((w1.alloc (.cells #[.int .u32 x.1, .int .u32 x.2.1, .int .u32 x.2.2] 39)).drewN q) = .ok (.int .u32 (labTo es j x.2.2)) ((w1.alloc (.cells #[.int .u32 x.1, .int .u32 x.2.1, .int .u32 x.2.2] 39)).drewN q) := fun q => by
            have := (HMX.out.drewN q).lookup Try.underlying79 Try.underlying31 (zeroU _) x.2.2
            rw [mget_mapF, if_pos hmem.2] at this; exact this
          have hz : ∀ q, ((w1.alloc (.cells #[.int .u32 x.1, .int .u32 x.2.1, .int .u32 x.2.2] 39)).drewN q).heap.size = w1.heap.size + 1 := fun q => World.size_alloc _ _
          go_wp2_with fail
          go_quiet (fail)
          go_wp2_with (refine wpList_mrange rfl (.tmp 44) _ 31 31 rfl Try.underlying79 (HMX.out.drewN _) rfl ?_; intro w2 k1 k2 k3; simp only [hz])
          have HT := Lib.hid (show Blk _ w.heap.size 25 _ from ((hG.alloc (.cells #[.int .u32 x.1, .int .u32 x.2.1, .int .u32 x.2.2] 39)).drewN _).grown k2 (by simp))
          have HX := Lib.hid (show Blk _ w1.heap.size 39 _ from ((Blk.new w1 39 #[.int .u32 x.1, .int .u32 x.2.1, .int .u32 x.2.2]).drewN _).grown k2 (by simp))
          have HBR := Lib.hid (show Below w.heap.size w w2 from (below_drewN (hbr.alloc hbr.size _) _).grown k2 (by simp; exact Nat.le_succ_of_le hbr.size) (by intro g hg; cases hg))
          have HI := Lib.hid k1
          have hw1 : w.heap.size + 1 < w1.heap.size := hM.lt
          clear hM hG hq hg0 hg1 HMX hlA hlB hbl hxb hc1 hc2 hc3 hbr hsz k1
          go_frame
          go_loopg [] (k + 1) (fun m wr2 => ∃ left : List Int, left.length < m ∧ left.Nodup ∧ Iter wr2 (w.heap.size + 1) (w1.heap.size + 1) .u32 encU32 (mapF vs (midF (labTo es j) (lstep (labTo es j) x) left)) left ∧ Below w.heap.size w wr2 ∧ Blk wr2 w.heap.size 25 #[.slice A k c, .slice (some ad) n' c'] ∧ Blk wr2 w1.heap.size 39 #[.int .u32 x.1, .int .u32 x.2.1, .int .u32 x.2.2])
          case atStart =>
            refine ⟨vs, by have := HL.out; omega, HND.out, ?_, HBR.out, HT.out, HX.out⟩
            have e1 := HI.out
            rw [mkeys_mapF] at e1
            rw [mapF_congr (g := labTo es j) fun v hv => by unfold midF; rw [if_pos hv]]
            simpa using e1
          case round =>
            clear HT HX HBR HI
            obtain ⟨left, hll, hln, hI, hb2, hG2, hX2⟩ := hrel
            obtain ⟨hg0, hg1⟩ := hG2.c2
            obtain ⟨hx0, hx1, hx2⟩ := hX2.c3
            have hxs := hX2.lt
            have HI := Lib.hid hI
            clear hI
            go_wp2_with (first
              | (at_next; refine wpList_mnext rfl (.tmp 45) rfl HI.out rfl (fun h0 => ?_) (fun y v w3 m1 m2 m3 m4 m5 m6 hen => ?_) <;> try simp only [encU32] at hen ⊢)
              | (refine wpList_mputIter rfl (.tmp 56) (.tmp 57) (.tmp 60) _ 31 31 rfl Try.underlying79 Try.underlying31 y _ m4 (by rw [← mget_some, m3]; rfl) rfl rfl rfl ?_; intro w4 p1 p2 p3))
            · -- all gone through
              subst h0
              have hM2 := HI.out.map
              rw [mapF_congr (g := labTo es (j + 1)) fun v _ => by unfold midF; rw [if_neg (by simp), HST.out]] at hM2
              exact ⟨⟨j + 1, by omega, by go_num, hM2, hb2, hG2⟩, by simp [intOf]; omega⟩
            all_goals
              obtain ⟨hyv, rfl⟩ := mid_get m1 m3
              have hlen : (left.erase y).length < left.length := by rw [List.length_erase_of_mem m1]; have := List.length_pos_of_mem m1; omega
              have hw3 : Below w.heap.size w w3 := hb2.grown m5 hb2.size (by intro g hg; cases hg; omega)
              have hG3 := hG2.grown m5 (by simp; omega)
              have hX3 := hX2.grown m5 (by simp)
              first
                | have ht : (labTo es j y == if labTo es j x.2.1 < labTo es j x.2.2 then labTo es j x.2.2 else labTo es j x.2.1) = false := by assumption
                  have hgy : lstep (labTo es j) x y = labTo es j y := by
                    unfold lstep; rw [if_neg (show ¬ labTo es j y = mxI (labTo es j x.2.1) (labTo es j x.2.2) from fun e => by rw [beq_eq_false_iff_ne] at ht; exact ht e)]
                  rw [← mid_keep m2 hgy] at m4
                  go_roundg left.length
                  case rel => exact ⟨left.erase y, hlen, m2.erase y, m4, hw3, hG3, hX3⟩
                  case measure => exact hll
                | have ht : (labTo es j y == if labTo es j x.2.1 < labTo es j x.2.2 then labTo es j x.2.2 else labTo es j x.2.1) = true := by assumption
                  have hgy : (if labTo es j x.2.2 < labTo es j x.2.1 then labTo es j x.2.2 else labTo es j x.2.1) = lstep (labTo es j) x y := by
                    show mnI (labTo es j x.2.1) (labTo es j x.2.2) = _; unfold lstep; rw [if_pos (show labTo es j y = mxI (labTo es j x.2.1) (labTo es j x.2.2) from beq_iff_eq.1 ht)]
                  rw [hgy, mid_put m2 hyv] at p1
                  go_roundg left.length
                  case rel => exact ⟨left.erase y, hlen, m2.erase y, p1, hw3.grown p2 hw3.size (by intro g hg; cases hg; omega), hG3.grown p2 (by simp), hX3.grown p2 (by simp; omega)⟩
                  case measure => exact hll
        · obtain rfl : j = n' := by omega
          rw [show labTo es j = lab es by rw [← HL'.out]; exact labTo_all es] at hM
          have hq := h.below (hbr.mono hB)
          obtain ⟨w1, rfl⟩ : ∃ w1 : World, w1 = wr := ⟨_, rfl⟩
          have HMP := Lib.hid hM
          have HBR := Lib.hid hbr
          have HGG := Lib.hid hG
          have hMA := MapOf.made w1 .u32 encI64
          have HMA := Lib.hid hMA
          clear hM hbr hG hMA
          have hG1 : w.heap.size + 1 < w1.heap.size := HMP.out.lt
          go_wp2
          go_loopw [12, 66] (fun s12 i wr => ∃ (m : Nat) (r : Option Nat) (A2 : Option Addr) (c2 : Nat) (am : List (Int × Int)), m ≤ k ∧ i = .int .i64 m ∧ s12 = .slice A2 (rootsLen vs es m) c2 ∧ OwnUU wr w.heap.size wr.heap.size r A2 (rootsLen vs es m) c2 (fillTo vs es m) ∧
            MapOf wr (w.heap.size + 1) .u32 encU32 (mapF vs (lab es)) ∧ MapOf wr w1.heap.size .u32 encI64 am ∧ Hid (∀ (i : Nat) (r : Int), (rootsTo vs es m)[i]? = some r → mget am r = some (i : Int)) ∧ Below w.heap.size w wr ∧ Blk wr w.heap.size 25 #[.slice A k c, .slice A' j c']) (fun _ i _ => k - (intOf i).toNat)
          case atStart =>
            refine ⟨0, none, none, 0, [], by omega, rfl, by simp [rootsLen, rootsTo], ?_, HMP.out.alloc _, HMA.out, (by intro i r e; simp [rootsTo] at e), HBR.out.alloc HBR.out.size _, HGG.out.alloc _⟩
            have := OwnUU.nil_ (w1.alloc (.map #[] 0)) w.heap.size (w1.alloc (.map #[] 0)).heap.size
            simpa [fillTo, rootsLen, rootsTo] using this
          case round =>
            clear HMA HGG HBR HMP
            obtain ⟨m, r, A2, c2, am, hm, rfl, rfl, hown, hM, hMA, hat, hbr, hG⟩ := hrel
            have hq := h.below (hbr.mono hB)
            obtain ⟨hg0, hg1⟩ := hG.c2
            have hsz := hG.lt
            have hrl := rootsLen_le vs es m
            by_cases hlt3 : m < k
            · obtain ⟨ad, x, rfl, hbl, hx, hxb, hc1⟩ := hq.at_ hlt3
              have HX := Lib.hid hx
              have hmem := List.mem_of_getElem? hx
              have HLK : Hid (((mget (mapF vs (lab es)) x).map encU32).getD (.int .u32 0) = .int .u32 (lab es x)) := by
                show _ = _; rw [mget_mapF, if_pos hmem]; rfl
              have HO := Lib.hid hown
              have HM := Lib.hid hM
              have HMA := Lib.hid hMA
              have HAT : Hid (∀ (i : Nat) (r : Int), (rootsTo vs es m)[i]? = some r → mget am r = some (i : Int)) := hat
              clear hx hmem hown hM hMA hat
              by_cases he : lab es x = x
              · have he' : (lab es x == x) = true := by simp [he]
                have HEQ := Lib.hid he
                clear he
                go_wp2_with (first
                  | (refine buildNil rfl rfl ?_)
                  | (at_builtin; go_loud (refine appUU1 rfl (.tmp 80) (.tmp 81) rfl _ w.heap.size wr.heap.size _ _ _ _ _ rfl ho2 (by simp; omega) hbr.size w2.heap.size (none, 0, 0) none [] rfl (Blk.new _ _ _) (OwnU.nil_ _ _) (fun g e => by cases e) (by omega) ?_); intro r3 A3 c3 w3 m1 m2 m3)
                  | (refine wpList_mlook rfl (.tmp 70) (.tmp 71) _ 31 31 rfl Try.underlying79 Try.underlying31 zeroU x HM.out rfl rfl ?_; rw [HLK.out])
                  | (refine wpList_mput rfl (.tmp 76) (.tmp 77) (.tmp 79) _ 31 3 rfl Try.underlying80 Try.underlying31 (lab es x) (rootsLen vs es m : Int) HMA.out rfl rfl rfl ?_; intro w2 k1 k2 k3; have ho2 := (HO.out.kept k2 (fun g cur e => by cases e; exact ⟨fun hc => HMA.out.ne_cells hc rfl, fun hc => HMA.out.ne_cells hc rfl⟩)).alloc (by omega) (.cells #[.slice none 0 0] 22)))
                have hsz1 := hbr.size
                have hne2 : ∀ (b : Nat) (W : World) (mm : List (Int × Int)), MapOf wr b .u32 encU32 mm ∨ MapOf wr b .u32 encI64 mm → some b ≠ r := by
                  obtain ⟨hs', rs', p1, _⟩ := HO.out
                  rintro b W mm (hh | hh)
                  · exact own_map_ne p1 hh
                  · exact own_map_ne p1 hh
                have HM3 := Lib.hid (show MapOf w3 _ _ _ _ from ((HM.out.grown k2 (by simp; omega)).alloc _).grown m2 (hne2 _ wr _ (.inl HM.out)))
                have HA3 := Lib.hid (show MapOf w3 _ _ _ _ from (k1.alloc _).grown m2 (hne2 _ wr _ (.inr HMA.out)))
                have HB3 := Lib.hid (show Below w.heap.size w w3 from by
                  obtain ⟨hs', rs', p1, p2, p3, _⟩ := HO.out
                  exact ((hbr.grown k2 hbr.size (by intro g hg; cases hg; omega)).alloc (by omega) _).grown m2 (by simp; omega) (fun g hg => (p3 g hg).1))
                have HG3 := Lib.hid (show Blk w3 _ _ _ from by
                  refine ((hG.grown k2 (by simp; omega)).alloc _).grown m2 (fun e => ?_)
                  obtain ⟨hs', rs', p1, p2, p3, _⟩ := HO.out
                  have h1 := (p3 _ e.symm).1
                  obtain ⟨cur, hh⟩ := p1.block e.symm
                  exact absurd rfl (Blk.ne_ (t := 22) (cs := cur) hh hG (by decide)))
                have hrs := rootsTo_succ (es := es) HX.out
                rw [if_pos HEQ.out] at hrs
                have hrl1 : rootsLen vs es (m + 1) = rootsLen vs es m + 1 := by unfold rootsLen; rw [hrs]; simp
                have HAT3 : Hid (∀ (i : Nat) (r : Int), (rootsTo vs es (m + 1))[i]? = some r → mget (mput am (lab es x) (rootsLen vs es m : Int)) r = some (i : Int)) := by
                  intro i r hi
                  rw [mget_mput]
                  rw [hrs] at hi
                  by_cases hil : i < (rootsTo vs es m).length
                  · rw [List.getElem?_append_left hil] at hi
                    rw [if_neg, HAT.out i r hi]
                    intro e
                    have hm1 : r ∈ vs.take m := (List.mem_filter.1 (List.mem_of_getElem? hi)).1
                    have := lt_of_take HSO.out HX.out hm1
                    have := HEQ.out
                    omega
                  · rw [List.getElem?_append_right (by omega)] at hi
                    have hi0 : i - (rootsTo vs es m).length = 0 := by
                      rcases Nat.eq_zero_or_pos (i - (rootsTo vs es m).length) with h0 | h0
                      · exact h0
                      · rw [List.getElem?_eq_none (by simp; omega)] at hi; cases hi
                    rw [hi0] at hi
                    simp only [List.getElem?_cons_zero, Option.some.injEq] at hi
                    rw [if_pos (by rw [HEQ.out, hi])]
                    have : i = rootsLen vs es m := by unfold rootsLen; omega
                    rw [this]
                rw [← fillMid_new HSO.out HX.out HEQ.out] at m1
                rw [← hrl1] at m1
                have HO3 := Lib.hid m1
                simp only [← hrl1]
                clear HO HM HMA HAT k1 ho2 m1 hne2 hrs
                -- 'out[at[p]] = append(out[at[p]], v)'
                obtain ⟨i0, hi0, hi1⟩ := root_at HSO.out HE.out HX.out
                obtain ⟨hs0, rs0, p1, p2, p3, p4, p5, p6, p7⟩ := HO3.out
                have hi2 : i0 < (fillMid vs es m).length := by rw [fillMid_len]; exact hi1
                obtain ⟨⟨A0, n0, c0⟩, eh0⟩ : ∃ h0, hs0[i0]? = some h0 := ⟨hs0[i0]'(by omega), List.getElem?_eq_getElem _⟩
                obtain ⟨q0, eq0⟩ : ∃ q0, rs0[i0]? = some q0 := ⟨rs0[i0]'(by omega), List.getElem?_eq_getElem _⟩
                have hrow := (p6 i0 _ q0 _ eh0 eq0 (fillMid_at hi0)).1
                obtain ⟨g, rfl, rfl, hgl, hgc, hgf⟩ := p1.at_one (j := i0) (v := .slice A0 n0 c0) (by rw [List.getElem?_map, eh0]; rfl)
                have hrn : n0 ≤ m := by have hl9 := hrow.len; simp only at hl9; rw [← hl9]; exact rowTo_len vs es m _
                have hlk : ∀ W : World, MapOf W w1.heap.size .u32 encI64 (mput am (lab es x) (rootsLen vs es m : Int)) → (Instr.lookup 80 (.map (some w1.heap.size)) (.int .u32 (lab es x)) false).run Try.prog W = .ok (.int .i64 i0) W := fun W hW => by
                  have := hW.lookup Try.underlying80 Try.underlying31 (zeroI _) (lab es x)
                  rw [HAT3.out i0 _ hi0] at this; exact this
                have hl0 : (Instr.lookup 80 (.map (some w1.heap.size)) (.int .u32 (lab es x)) false).run Try.prog w3.drew = .ok (.int .i64 i0) w3.drew := hlk _ HA3.out.drew
                have hl1 : (Instr.lookup 80 (.map (some w1.heap.size)) (.int .u32 (lab es x)) false).run Try.prog (w3.alloc (.cells #[.int .u32 x] 31)).drew = .ok (.int .i64 i0) (w3.alloc (.cells #[.int .u32 x] 31)).drew := hlk _ (HA3.out.alloc _).drew
                have HLK := Lib.hid hlk
                have HP := Lib.hid p1
                have HROW := Lib.hid hrow
                have hv0 : (hs0.map hdV)[i0]? = some (.slice A0 n0 c0) := by rw [List.getElem?_map, eh0]; rfl
                have hgq : ∀ q, q0 = q → some g ≠ q := by
                  rintro q rfl e
                  obtain ⟨cu1, e1⟩ := hrow.1.1.block e.symm
                  obtain ⟨cu2, e2⟩ := p1.block rfl
                  rw [e1] at e2
                  injection e2 with e2
                  injection e2 with _ e2
                  revert e2; decide
                have hb0 : (0 : Int) ≤ (i0 : Int) := by omega
                have hb1 : (i0 : Int) < (rootsLen vs es (m + 1) : Int) := by omega
                have hb3 : (i0 : Int) < (rootsLen vs es m : Int) + 1 := by omega
                have hb2 : IntKind.i64.wrap (i0 : Int) = i0 := IntWalk.i64_in _ (by omega)
                have HPUT : Hid (∀ (w4 : World) (q' : Option Nat) (A4 : Option Addr) (n4 c4 : Nat) (ys : List Int), (w3.alloc (.cells #[.int .u32 x] 31)).grownBy w4 q0 → (q' = q0 ∨ ∀ g, q' = some g → (w3.alloc (.cells #[.int .u32 x] 31)).heap.size ≤ g) → OwnU w4 q' A4 n4 c4 ys →
                    OwnUU (w4.setCell ⟨g, i0, none⟩ (.slice A4 n4 c4)) w.heap.size w4.heap.size (some g) (some ⟨g, 0, none⟩) (rootsLen vs es (m + 1)) c3 ((fillMid vs es m).set i0 ys)) := fun w4 q' A4 n4 c4 ys hG hq hy =>
                  OwnUU.put (p1.alloc _) p2 p3 p4 p5 (fun j h q xs a b d => ⟨(p6 j h q xs a b d).1.alloc _, (p6 j h q xs a b d).2⟩) p7 eq0 hG hq hy (by simp) (by simp; exact Nat.le_succ_of_le HB3.out.size)
                have hwg : w.heap.size ≤ g := (p3 g rfl).1
                have hGne : w.heap.size ≠ g := by
                  obtain ⟨cu2, e2⟩ := p1.block rfl
                  exact fun e => absurd rfl (Blk.ne_ (t := 22) (cs := cu2) (e ▸ e2) HG3.out (by decide))
                have hq0 : ∀ g', q0 = some g' → w.heap.size ≤ g' := fun g' e => ((p6 i0 _ q0 _ eh0 eq0 (fillMid_at hi0)).2 g' e).1
                have hq0G : some w.heap.size ≠ q0 := fun e => by
                  obtain ⟨cur, hh⟩ := hrow.1.1.block e.symm
                  exact absurd rfl (Blk.ne_ (t := 31) (cs := cur) hh HG3.out (by decide))
                have hFS : Hid (fillTo vs es (m + 1) = (fillMid vs es m).set i0 (rowTo vs es m (lab es x) ++ [x])) := fillTo_succ HSO.out HX.out hi0
                have HMG : Hid (w.heap.size + 1 ≠ g ∧ w1.heap.size ≠ g) := by
                  obtain ⟨cu2, e2⟩ := p1.block rfl
                  exact ⟨HM3.out.ne_cells e2, HA3.out.ne_cells e2⟩
                clear hlk p1 p2 p3 p4 p5 p6 p7 hrow
                go_region_law (refine stepU rfl (.tmp 92) (.tmp 94) rfl _ q0 A0 n0 c0 (rowTo vs es m (lab es x)) rfl (HROW.out.alloc _) _ _ 1 1 [x] rfl (RdU.one (Blk.new w3 _ _) hxb) (by omega) ?_; intro r4 A4 c4 w4 q1 q2 q3; have hl4 := HLK.out w4 ((HA3.out.drew.alloc _).grown q2 (own_map_ne HROW.out.1.1 HA3.out)); have hP4 := (HP.out.drew.alloc (.cells #[.int .u32 x] 31)).kept q2 (.inr (hgq q0 rfl)); obtain ⟨g', e1, _, hg4, hc4, hf4⟩ := hP4.at_one (j := i0) (v := .slice A0 n0 c0) hv0; cases e1)
                all_goals
                  have G2 : (w3.alloc (.cells #[.int .u32 x] 31)).grownBy w4 q0 := ⟨q2.os, q2.tape, q2.output, q2.size, q2.block⟩
                  have hFO := HPUT.out w4 r4 A4 (n0 + 1) c4 _ G2 q3 q1
                  rw [← hFS.out] at hFO
                  have hFM := ((HM3.out.alloc (.cells #[.int .u32 x] 31)).grown G2 (own_map_ne HROW.out.1.1 HM3.out)).setCell (p := ⟨g, i0, none⟩) HMG.out.1 (.slice A4 (n0 + 1) c4)
                  have hFA := ((HA3.out.alloc (.cells #[.int .u32 x] 31)).grown G2 (own_map_ne HROW.out.1.1 HA3.out)).setCell (p := ⟨g, i0, none⟩) HMG.out.2 (.slice A4 (n0 + 1) c4)
                  have hFB := (((HB3.out.alloc HB3.out.size (.cells #[.int .u32 x] 31)).grown G2 (by simp; exact Nat.le_succ_of_le HB3.out.size) hq0)).setCell (p := ⟨g, i0, none⟩) hwg (.slice A4 (n0 + 1) c4)
                  have hFG := ((HG3.out.alloc (.cells #[.int .u32 x] 31)).grown G2 hq0G).far (p := ⟨g, i0, none⟩) hGne (.slice A4 (n0 + 1) c4)
                  go_wp2
                  go_roundw
                  case rel => exact ⟨m + 1, some g, some ⟨g, 0, none⟩, c3, mput am (lab es x) (rootsLen vs es m : Int), by omega, by go_num, by rw [hrl1], by simpa using hFO, hFM, hFA, HAT3.out, hFB, hFG⟩
                  case measure => simp [intOf]; omega
              · have he' : (lab es x == x) = false := by simp [he]
                have HEQ := Lib.hid he
                clear he
                go_wp2_with (refine wpList_mlook rfl (.tmp 70) (.tmp 71) _ 31 31 rfl Try.underlying79 Try.underlying31 zeroU x HM.out rfl rfl ?_; rw [HLK.out])
                have hsz1 := hbr.size
                have HM3 := Lib.hid HM.out
                have HA3 := Lib.hid HMA.out
                have HB3 := Lib.hid hbr
                have HG3 := Lib.hid hG
                have hrs := rootsTo_succ (es := es) HX.out
                rw [if_neg HEQ.out, List.append_nil] at hrs
                have hrl1 : rootsLen vs es (m + 1) = rootsLen vs es m := by unfold rootsLen; rw [hrs]
                have HAT3 : Hid (∀ (i : Nat) (r : Int), (rootsTo vs es (m + 1))[i]? = some r → mget am r = some (i : Int)) := by
                  intro i r hi
                  rw [hrs] at hi
                  exact HAT.out i r hi
                have m1 := HO.out
                rw [← fillMid_old HX.out HEQ.out, ← hrl1] at m1
                have HO3 := Lib.hid m1
                clear HO HM HMA HAT m1 hrs
                -- 'out[at[p]] = append(out[at[p]], v)'
                obtain ⟨i0, hi0, hi1⟩ := root_at HSO.out HE.out HX.out
                obtain ⟨hs0, rs0, p1, p2, p3, p4, p5, p6, p7⟩ := HO3.out
                have hi2 : i0 < (fillMid vs es m).length := by rw [fillMid_len]; exact hi1
                obtain ⟨⟨A0, n0, c0⟩, eh0⟩ : ∃ h0, hs0[i0]? = some h0 := ⟨hs0[i0]'(by omega), List.getElem?_eq_getElem _⟩
                obtain ⟨q0, eq0⟩ : ∃ q0, rs0[i0]? = some q0 := ⟨rs0[i0]'(by omega), List.getElem?_eq_getElem _⟩
                have hrow := (p6 i0 _ q0 _ eh0 eq0 (fillMid_at hi0)).1
                obtain ⟨g, rfl, rfl, hgl, hgc, hgf⟩ := p1.at_one (j := i0) (v := .slice A0 n0 c0) (by rw [List.getElem?_map, eh0]; rfl)
                have hrn : n0 ≤ m := by have hl9 := hrow.len; simp only at hl9; rw [← hl9]; exact rowTo_len vs es m _
                have hlk : ∀ W : World, MapOf W w1.heap.size .u32 encI64 (am) → (Instr.lookup 80 (.map (some w1.heap.size)) (.int .u32 (lab es x)) false).run Try.prog W = .ok (.int .i64 i0) W := fun W hW => by
                  have := hW.lookup Try.underlying80 Try.underlying31 (zeroI _) (lab es x)
                  rw [HAT3.out i0 _ hi0] at this; exact this
                have hl0 : (Instr.lookup 80 (.map (some w1.heap.size)) (.int .u32 (lab es x)) false).run Try.prog wr.drew = .ok (.int .i64 i0) wr.drew := hlk _ HA3.out.drew
                have hl1 : (Instr.lookup 80 (.map (some w1.heap.size)) (.int .u32 (lab es x)) false).run Try.prog (wr.alloc (.cells #[.int .u32 x] 31)).drew = .ok (.int .i64 i0) (wr.alloc (.cells #[.int .u32 x] 31)).drew := hlk _ (HA3.out.alloc _).drew
                have HLK := Lib.hid hlk
                have HP := Lib.hid p1
                have HROW := Lib.hid hrow
                have hv0 : (hs0.map hdV)[i0]? = some (.slice A0 n0 c0) := by rw [List.getElem?_map, eh0]; rfl
                have hgq : ∀ q, q0 = q → some g ≠ q := by
                  rintro q rfl e
                  obtain ⟨cu1, e1⟩ := hrow.1.1.block e.symm
                  obtain ⟨cu2, e2⟩ := p1.block rfl
                  rw [e1] at e2
                  injection e2 with e2
                  injection e2 with _ e2
                  revert e2; decide
                have hb0 : (0 : Int) ≤ (i0 : Int) := by omega
                have hb1 : (i0 : Int) < (rootsLen vs es (m + 1) : Int) := by omega
                have hb3 : (i0 : Int) < (rootsLen vs es m : Int) := by omega
                have hb2 : IntKind.i64.wrap (i0 : Int) = i0 := IntWalk.i64_in _ (by omega)
                have HPUT : Hid (∀ (w4 : World) (q' : Option Nat) (A4 : Option Addr) (n4 c4 : Nat) (ys : List Int), (wr.alloc (.cells #[.int .u32 x] 31)).grownBy w4 q0 → (q' = q0 ∨ ∀ g, q' = some g → (wr.alloc (.cells #[.int .u32 x] 31)).heap.size ≤ g) → OwnU w4 q' A4 n4 c4 ys →
                    OwnUU (w4.setCell ⟨g, i0, none⟩ (.slice A4 n4 c4)) w.heap.size w4.heap.size (some g) (some ⟨g, 0, none⟩) (rootsLen vs es (m + 1)) c2 ((fillMid vs es m).set i0 ys)) := fun w4 q' A4 n4 c4 ys hG hq hy =>
                  OwnUU.put (p1.alloc _) p2 p3 p4 p5 (fun j h q xs a b d => ⟨(p6 j h q xs a b d).1.alloc _, (p6 j h q xs a b d).2⟩) p7 eq0 hG hq hy (by simp) (by simp; exact Nat.le_succ_of_le HB3.out.size)
                have hwg : w.heap.size ≤ g := (p3 g rfl).1
                have hGne : w.heap.size ≠ g := by
                  obtain ⟨cu2, e2⟩ := p1.block rfl
                  exact fun e => absurd rfl (Blk.ne_ (t := 22) (cs := cu2) (e ▸ e2) HG3.out (by decide))
                have hq0 : ∀ g', q0 = some g' → w.heap.size ≤ g' := fun g' e => ((p6 i0 _ q0 _ eh0 eq0 (fillMid_at hi0)).2 g' e).1
                have hq0G : some w.heap.size ≠ q0 := fun e => by
                  obtain ⟨cur, hh⟩ := hrow.1.1.block e.symm
                  exact absurd rfl (Blk.ne_ (t := 31) (cs := cur) hh HG3.out (by decide))
                have hFS : Hid (fillTo vs es (m + 1) = (fillMid vs es m).set i0 (rowTo vs es m (lab es x) ++ [x])) := fillTo_succ HSO.out HX.out hi0
                have HMG : Hid (w.heap.size + 1 ≠ g ∧ w1.heap.size ≠ g) := by
                  obtain ⟨cu2, e2⟩ := p1.block rfl
                  exact ⟨HM3.out.ne_cells e2, HA3.out.ne_cells e2⟩
                clear hlk p1 p2 p3 p4 p5 p6 p7 hrow
                go_region_law (refine stepU rfl (.tmp 92) (.tmp 94) rfl _ q0 A0 n0 c0 (rowTo vs es m (lab es x)) rfl (HROW.out.alloc _) _ _ 1 1 [x] rfl (RdU.one (Blk.new wr _ _) hxb) (by omega) ?_; intro r4 A4 c4 w4 q1 q2 q3; have hl4 := HLK.out w4 ((HA3.out.drew.alloc _).grown q2 (own_map_ne HROW.out.1.1 HA3.out)); have hP4 := (HP.out.drew.alloc (.cells #[.int .u32 x] 31)).kept q2 (.inr (hgq q0 rfl)); obtain ⟨g', e1, _, hg4, hc4, hf4⟩ := hP4.at_one (j := i0) (v := .slice A0 n0 c0) hv0; cases e1)
                all_goals
                  have G2 : (wr.alloc (.cells #[.int .u32 x] 31)).grownBy w4 q0 := ⟨q2.os, q2.tape, q2.output, q2.size, q2.block⟩
                  have hFO := HPUT.out w4 r4 A4 (n0 + 1) c4 _ G2 q3 q1
                  rw [← hFS.out] at hFO
                  have hFM := ((HM3.out.alloc (.cells #[.int .u32 x] 31)).grown G2 (own_map_ne HROW.out.1.1 HM3.out)).setCell (p := ⟨g, i0, none⟩) HMG.out.1 (.slice A4 (n0 + 1) c4)
                  have hFA := ((HA3.out.alloc (.cells #[.int .u32 x] 31)).grown G2 (own_map_ne HROW.out.1.1 HA3.out)).setCell (p := ⟨g, i0, none⟩) HMG.out.2 (.slice A4 (n0 + 1) c4)
                  have hFB := (((HB3.out.alloc HB3.out.size (.cells #[.int .u32 x] 31)).grown G2 (by simp; exact Nat.le_succ_of_le HB3.out.size) hq0)).setCell (p := ⟨g, i0, none⟩) hwg (.slice A4 (n0 + 1) c4)
                  have hFG := ((HG3.out.alloc (.cells #[.int .u32 x] 31)).grown G2 hq0G).far (p := ⟨g, i0, none⟩) hGne (.slice A4 (n0 + 1) c4)
                  go_wp2
                  go_roundw
                  case rel => exact ⟨m + 1, some g, some ⟨g, 0, none⟩, c2, am, by omega, by go_num, by rw [hrl1], by simpa using hFO, hFM, hFA, HAT3.out, hFB, hFG⟩
                  case measure => simp [intOf]; omega
            · obtain rfl : m = k := by omega
              go_wp2
              go_ret
              exact ⟨r, A2, c2, by show Ending.returned (Value.slice A2 (rootsLen vs es m) c2) = _; rw [← fillTo_all vs es HL.out, fillTo_len], by rw [← fillTo_all vs es HL.out, fillTo_len]; exact hown, hbr⟩
end Go.Proofs.Ytklmckbpbloonaa

namespace Go.Proofs.Ytklmckbpbloonaa
open Go.RowKit

theorem OwnU.below_ {w w' : World} {B : Nat} {r : Option Nat} {A : Option Addr} {n c : Nat} {xs : List Int} (h : OwnU w r A n c xs) (hg : w.grownBy w' (some B)) (hne : ∀ g, r = some g → g ≠ B) : OwnU w' r A n c xs :=
  h.kept hg (by cases r with
    | none => exact .inl rfl
    | some g => right; intro e; cases e; exact hne _ rfl rfl)
set_option maxRecDepth 100000 in
set_option maxHeartbeats 1000000 in
theorem make1 (B : Nat) (A A' : Option Addr) (n c n' c' : Nat) (vs : List Int) (es : List Edg) (w : World) (h : RdU w B A n c vs) (h' : RdE w B A' n' c' es) (hn : n ≤ 1000000) (hn' : n' < 2) (hB : B ≤ w.heap.size) :
    Calls Try.prog 39 #[.slice A n c, .slice A' n' c'] w fun e w' => ∃ r1 A1 c1 r2 A2 c2, e = .returned (.agg #[.slice A1 (cpL (sortL vs)).length c1, .slice A2 n' c2]) ∧
      OwnU w' r1 A1 (cpL (sortL vs)).length c1 (cpL (sortL vs)) ∧ OwnE w' r2 A2 n' c2 es ∧ Below w.heap.size w w' ∧ (∀ g, r1 = some g → w.heap.size ≤ g) ∧ (∀ g, r2 = some g → w.heap.size ≤ g) := by
  have hl := h.len
  have hl' := h'.len
  have hb0 := (Below.refl w.heap.size w).alloc (Nat.le_refl _) (.cells #[.slice none 0 0, .slice none 0 0] 25)
  have HB0 := Lib.hid hb0
  have HG0 := Lib.hid (Blk.new w 25 #[.slice none 0 0, .slice none 0 0])
  have HR := Lib.hid (h.below (hb0.mono hB))
  have HR' := Lib.hid (h'.below (hb0.mono hB))
  clear hb0
  go_enter Try.func39, Try.ntmps39
  go_wp2_with (first
    | (go_at_call 63; refine (cloneU B _ _ _ vs _ HR.out (by omega) (by simp; omega)).mono ?_; rintro e w1 ⟨r1, A1, c1, rfl, k1, k2, k3⟩; have hz1 := k2.size; simp only [World.size_alloc] at hz1 k2 k3)
    | (go_at_call 79; refine (cloneE B _ _ _ es _ (HR'.out.below (k2.mono (by omega))) (by omega) (by omega)).mono ?_; rintro e w2 ⟨r2, A2, c2, rfl, m1, m2, m3⟩; have hz2 := m2.size; have k1' := k1.below m2 (fun g hg => k1.lt g hg))
    | (go_at_call 80; refine (sortU _ r1 _ _ _ vs k1' (by omega)).mono ?_; rintro e w3 ⟨rfl, q1, q2⟩)
    | (go_at_call 81; refine (ss1 _ _ _ _ _ hn').mono ?_; rintro e w4 ⟨rfl, rfl⟩)
    | (go_at_call 83; refine (compactU _ r1 _ _ _ _ q1).mono ?_; rintro e w5 ⟨rfl, p1, p2⟩; have hG1 := HG0.out.below k2 (by omega); have hG2 := hG1.below m2 hG1.lt; have hn1 : some w.heap.size ≠ r1 := (fun e => absurd (k3 _ e.symm) (by omega)); have hG5 := (hG2.grown q2 hn1).grown p2 hn1; obtain ⟨hg0, hg1⟩ := hG5.c2; have hf0 := hG5.frozen 0; have hf1 := hG5.frozen 1; have hgl := hG5.lt)
    | (go_at_call 84; refine (cpf1 _ _ _ _ _ hn').mono ?_; rintro e w6 ⟨rfl, rfl⟩))
  refine bodyPost_ret (v := .agg #[.slice A1 (cpL (sortL vs)).length c1, .slice A2 n' c2]) (by simp [results, Try.results39, go_sem, hg0, hg1]) rfl ?_
  have h1l := k1.lt
  have hr1 : ∀ g, r1 = some g → w.heap.size + 1 ≤ g := k3
  have hr2 : ∀ g, r2 = some g → w.heap.size + 1 ≤ g := fun g e => Nat.le_trans hz1 (m3 g e)
  have hne : r2 = none ∨ r2 ≠ r1 := by
    cases r2 with
    | none => exact .inl rfl
    | some g => right; intro e; have a := m3 g rfl; have b := h1l g e.symm; omega
  have hE := (m1.kept q2 hne).kept p2 hne
  have hBB := (((HB0.out.trans (k2.mono (by omega))).trans (m2.mono (by omega))).grown q2 (by omega) (fun g e => by have := hr1 g e; omega)).grown p2 (by have := q2.size; omega) (fun g e => by have := hr1 g e; omega)
  refine ⟨r1, A1, c1, r2, A2, c2, rfl, ?_, ?_, ?_, fun g e => by have := hr1 g e; omega, fun g e => by have := hr2 g e; omega⟩
  · exact (p1.setCell_far (p := ⟨w.heap.size, 0, none⟩) (fun g e => by have := hr1 g e; simp; omega) _).setCell_far (p := ⟨w.heap.size, 1, none⟩) (fun g e => by have := hr1 g e; simp; omega) _
  · exact (hE.setCell_far (p := ⟨w.heap.size, 0, none⟩) (fun g e => by have := hr2 g e; simp; omega) _).setCell_far (p := ⟨w.heap.size, 1, none⟩) (fun g e => by have := hr2 g e; simp; omega) _
  · exact (hBB.setCell (p := ⟨w.heap.size, 0, none⟩) (Nat.le_refl _) _).setCell (p := ⟨w.heap.size, 1, none⟩) (Nat.le_refl _) _
end Go.Proofs.Ytklmckbpbloonaa

namespace Go.Proofs.Ytklmckbpbloonaa
open Go.RowKit

theorem RdU.blk {w : World} {g : Nat} {xs : List Int} (h : Blk w g 31 (U xs).toArray) (hu : u32s xs) (hn : xs.length ≤ 1000000) : RdU w w.heap.size (some ⟨g, 0, none⟩) xs.length xs.length xs :=
  ⟨⟨by rw [U_len]; omega, fun _ => ⟨_, rfl, h.lt, fun j u hj => by rw [Addr.add_lit, Nat.zero_add, h.cell, ← hj]; simp⟩⟩, Nat.le_refl _, by omega, (fun e => by cases e), hu⟩
theorem RdE.blk {w : World} {g : Nat} {es : List Edg} (h : Blk w g 39 (Ed es).toArray) (hu : edgs es) (hn : es.length ≤ 1000000) : RdE w w.heap.size (some ⟨g, 0, none⟩) es.length es.length es :=
  ⟨⟨by rw [Ed_len], fun _ => ⟨_, rfl, h.lt, fun j u hj => by rw [Addr.add_lit, Nat.zero_add, h.cell, ← hj]; simp⟩⟩, Nat.le_refl _, by omega, (fun e => by cases e), hu⟩
theorem u32s_257 : u32s [2, 5, 7] := by intro x hx; simp at hx; omega
theorem u32s_9 : u32s [9] := by intro x hx; simp at hx; omega
theorem u32s_2597 : u32s [2, 5, 9, 7] := by intro x hx; simp at hx; omega
theorem insL_ex : insL [2, 5, 7] 5 [9] = [2, 5, 9, 7] := by decide
theorem below_drew_to {B : Nat} {a w : World} (h : Below B a w) (q : Nat) : Below B a (w.drewN q) := below_drewN h q

theorem awake8 (w : World) : Calls Try.prog 99 #[] w fun e w' => e = .returned (.bool true) ∧ Below w.heap.size w w' := by
  have hb := ((Below.refl w.heap.size w).alloc (Nat.le_refl _) (.cells (U [2, 5, 7]).toArray 31)).alloc (by simp) (.cells (U [9]).toArray 31)
  have h1 := (RdU.blk ((Blk.new w 31 (U [2, 5, 7]).toArray).alloc (.cells (U [9]).toArray 31)) u32s_257 (by decide))
  have h2 := (RdU.blk (Blk.new (w.alloc (.cells (U [2, 5, 7]).toArray 31)) 31 (U [9]).toArray) u32s_9 (by decide))
  have hf0 : dOf 3 0 = 6 := by decide
  have hf1 : twinD 6 = 7 := by decide
  simp only [World.size_alloc] at h1 h2
  have HB := Lib.hid hb
  have H1 := Lib.hid h1
  have H2 := Lib.hid h2
  clear hb h1 h2
  go_enter Try.func99, Try.ntmps99
  go_wp2_with (first
    | (go_at_call 118; refine (insert_any (w.heap.size + 2) _ _ _ _ _ _ [2, 5, 7] [9] 5 _ H1.out H2.out (by decide) (by simp)).mono ?_; rintro e w1 ⟨r1, A1, n1, c1, rfl, k1, k2, k3⟩; rw [insL_ex] at k1; have hs1 := k2.size; simp only [World.size_alloc] at hs1; have hd := k1.len; obtain rfl : n1 = 4 := hd.symm)
    | (go_at_call 22; refine (rsame_any _ _ _ _ _ _ _ [2, 5, 9, 7] [2, 5, 9, 7] _ ((k1.alloc _).rd) (RdU.blk (Blk.new w1 31 (U [2, 5, 9, 7]).toArray) u32s_2597 (by decide))).mono ?_; rintro e w2 ⟨rfl, q, rfl⟩)
    | (go_at_call 62; refine (dartOf0 3 _).mono ?_; rintro e w3 ⟨rfl, rfl⟩; rw [hf0])
    | (go_at_call 119; refine (twin_any 6 _ (by decide)).mono ?_; rintro e w4 ⟨rfl, rfl⟩; rw [hf1]))
  go_ret
  refine ⟨by simp, ?_⟩
  exact below_drewN (((HB.out.trans (k2.mono (by simp; omega)))).alloc (by omega) _) _

theorem awake8up (w : World) : Calls Try.prog 55 #[] w fun e w' => e = .returned (.bool true) ∧ Below w.heap.size w w' := by
  go_enter Try.func55, Try.ntmps55
  go_wp2_with (go_at_call 99; refine (awake8 _).mono ?_; rintro e w1 ⟨rfl, h1⟩)
  go_ret
  exact ⟨rfl, h1⟩

theorem u32s_123 : u32s [1, 2, 3] := by intro x hx; simp at hx; omega
theorem edgs_ex : edgs [(1, 1, 2)] := by intro e he; simp at he; subst he; decide
theorem sort_ex : cpL (sortL [1, 2, 3]) = [1, 2, 3] := by
  have : sortL [1, 2, 3] = [1, 2, 3] := List.mergeSort_of_pairwise (by decide)
  rw [this]; decide
theorem gcheck_ex : gcheck [1, 2, 3] [(1, 1, 2)] = 0 := by decide
theorem parts_ex : (partsTo [1, 2, 3] [(1, 1, 2)] 3).length = 2 := by decide
theorem alone_ex : aloneTo [1, 2, 3] [(1, 1, 2)] 3 = 1 := by decide
theorem ends_ex : ∀ e ∈ ([(1, 1, 2)] : List Edg), e.2.1 ∈ ([1, 2, 3] : List Int) ∧ e.2.2 ∈ ([1, 2, 3] : List Int) := by decide
theorem rise_ex : ([1, 2, 3] : List Int).Pairwise (· < ·) := by decide
set_option maxRecDepth 100000 in
theorem awake9 (w : World) : Calls Try.prog 13 #[] w fun e w' => e = .returned (.bool true) ∧ Below w.heap.size w w' := by
  have hb := ((Below.refl w.heap.size w).alloc (Nat.le_refl _) (.cells (U [1, 2, 3]).toArray 31)).alloc (by simp) (.cells (Ed [(1, 1, 2)]).toArray 39)
  have h1 := (RdU.blk ((Blk.new w 31 (U [1, 2, 3]).toArray).alloc (.cells (Ed [(1, 1, 2)]).toArray 39)) u32s_123 (by decide))
  have h2 := (RdE.blk (Blk.new (w.alloc (.cells (U [1, 2, 3]).toArray 31)) 39 (Ed [(1, 1, 2)]).toArray) edgs_ex (by decide))
  simp only [World.size_alloc] at h1 h2
  have HB := Lib.hid hb
  have H1 := Lib.hid h1
  have H2 := Lib.hid h2
  clear hb h1 h2
  go_enter Try.func13, Try.ntmps13
  go_wp2_with (first
    | (go_at_call 39; refine (make1 (w.heap.size + 2) _ _ _ _ _ _ [1, 2, 3] [(1, 1, 2)] _ H1.out H2.out (by decide) (by decide) (by simp)).mono ?_; rintro e w1 ⟨r1, A1, c1, r2, A2, c2, rfl, k1, k2, k3, k4, k5⟩; rw [sort_ex] at k1 ⊢; have hs1 := k3.size; simp only [World.size_alloc] at hs1; simp only [List.length_cons, List.length_nil, Nat.zero_add, Nat.reduceAdd] at k1 ⊢; have hX := Blk.new w1 25 #[.slice A1 3 c1, .slice A2 1 c2]; have hR1 := (k1.alloc (.cells #[.slice A1 3 c1, .slice A2 1 c2] 25)).rd; have hR2 := (k2.alloc (.cells #[.slice A1 3 c1, .slice A2 1 c2] 25)).rd; have hg := hX.c2; have hl1 := hX.lt)
    | (go_at_call 14; refine (check_any _ _ _ _ _ _ _ [1, 2, 3] [(1, 1, 2)] _ hR1 hR2 (Nat.le_refl _)).mono ?_; rintro e w2 ⟨rfl, q1⟩; rw [gcheck_ex]; have hX2 := hX.below q1 hl1; have hg2 := hX2.c2; have hR12 := hR1.below q1; have hR22 := hR2.below q1; have hl2 := hX2.lt; have hz2 := q1.size)
    | (go_at_call 17; refine (parts_any _ _ _ _ _ _ _ [1, 2, 3] [(1, 1, 2)] _ hR12 hR22 (by decide) hz2 rise_ex ends_ex).mono ?_; rintro e w3 ⟨r3, A3, c3, rfl, _, q2⟩; rw [parts_ex]; have hX3 := hX2.below q2 hl2; have hg3 := hX3.c2; have hR13 := hR12.below (q2.mono hz2); have hR23 := hR22.below (q2.mono hz2); have hz3 := Nat.le_trans hz2 q2.size)
    | (go_at_call 24; refine (alone_any _ _ _ _ _ _ _ [1, 2, 3] [(1, 1, 2)] _ hR13 hR23 (by decide) hz3).mono ?_; rintro e w4 ⟨rfl, q3⟩; rw [alone_ex])
    | (go_at_call 55; refine (awake8up _).mono ?_; rintro e w5 ⟨rfl, q4⟩))
  go_ret
  refine ⟨by simp, ?_⟩
  have z1 := q1.size
  have z2 := q2.size
  have z3 := q3.size
  simp only [World.size_alloc] at z1 z2 z3
  have e1 := (HB.out.trans (k3.mono (by simp; omega))).alloc (by omega) (.cells #[.slice A1 3 c1, .slice A2 1 c2] 25)
  exact (((e1.trans (q1.mono (by simp; omega))).trans (q2.mono (by omega))).trans (q3.mono (by omega))).trans (q4.mono (by omega))

theorem awake9up (w : World) : Calls Try.prog 64 #[] w fun e w' => e = .returned (.bool true) ∧ Below w.heap.size w w' := by
  go_enter Try.func64, Try.ntmps64
  go_wp2_with (go_at_call 13; refine (awake9 _).mono ?_; rintro e w1 ⟨rfl, h1⟩)
  go_ret
  exact ⟨rfl, h1⟩
end Go.Proofs.Ytklmckbpbloonaa

namespace Go.Proofs.Ytklmckbpbloonaa
open Go.RowKit

theorem u32s_12 : u32s [1, 2] := by intro x hx; simp at hx; omega
theorem u32s_2 : u32s [2] := by intro x hx; simp at hx; omega
theorem u32s_23 : u32s [2, 3] := by intro x hx; simp at hx; omega
theorem all_ex : allL [1, 2] [1, 2, 3] [2] = [2, 3] := by decide
theorem alln_ex : allN [1, 2] [1, 2, 3] [2] = 2 := by decide
set_option maxRecDepth 100000 in
theorem awake18 (w : World) : Calls Try.prog 27 #[] w fun e w' => e = .returned (.bool true) ∧ Below w.heap.size w w' := by
  have hb := (((Below.refl w.heap.size w).alloc (Nat.le_refl _) (.cells (U [1, 2]).toArray 31)).alloc (by simp) (.cells (U [1, 2, 3]).toArray 31)).alloc (by simp; omega) (.cells (U [2]).toArray 31)
  have h1 := (RdU.blk (((Blk.new w 31 (U [1, 2]).toArray).alloc (.cells (U [1, 2, 3]).toArray 31)).alloc (.cells (U [2]).toArray 31)) u32s_12 (by decide))
  have h2 := (RdU.blk ((Blk.new (w.alloc (.cells (U [1, 2]).toArray 31)) 31 (U [1, 2, 3]).toArray).alloc (.cells (U [2]).toArray 31)) u32s_123 (by decide))
  have h3 := (RdU.blk (Blk.new ((w.alloc (.cells (U [1, 2]).toArray 31)).alloc (.cells (U [1, 2, 3]).toArray 31)) 31 (U [2]).toArray) u32s_2 (by decide))
  simp only [World.size_alloc] at h1 h2 h3
  have HB := Lib.hid hb
  have H1 := Lib.hid h1
  have H2 := Lib.hid h2
  have H3 := Lib.hid h3
  clear hb h1 h2 h3
  go_enter Try.func27, Try.ntmps27
  go_wp2_with (first
    | (go_at_call 31; refine (pick_any _ _ _ _ _ _ _ _ _ _ [1, 2] [1, 2, 3] [2] _ H1.out H2.out H3.out (by decide) (by decide) (by simp)).mono ?_; rintro e w1 ⟨r1, A1, c1, rfl, k1, k2⟩; rw [all_ex, alln_ex] at k1; rw [alln_ex]; have hs1 := k2.size; simp only [World.size_alloc] at hs1)
    | (go_at_call 22; refine (rsame_any _ _ _ _ _ _ _ [2, 3] [2, 3] _ ((k1.alloc _).rd) (RdU.blk (Blk.new w1 31 (U [2, 3]).toArray) u32s_23 (by decide))).mono ?_; rintro e w2 ⟨rfl, q, rfl⟩)
    | (go_at_call 64; refine (awake9up _).mono ?_; rintro e w5 ⟨rfl, q4⟩))
  go_ret
  refine ⟨by simp [sameB], ?_⟩
  have e1 := (HB.out.trans (k2.mono (by simp; omega))).alloc (by omega) (.cells (U [2, 3]).toArray 31)
  exact (below_drewN e1 q).trans (q4.mono (show w.heap.size ≤ ((w1.alloc _).drewN q).heap.size by have := e1.size; exact this))
end Go.Proofs.Ytklmckbpbloonaa

namespace Go.Proofs.Ytklmckbpbloonaa

section
variable {α : Type}
/-- Two places change their things. -/
def swp (es : List α) (i j : Nat) : List α :=
  match es[i]?, es[j]? with
  | some x, some y => (es.set i y).set j x
  | _, _ => es
theorem swp_eq {es : List α} {i j : Nat} {x y : α} (hi : es[i]? = some x) (hj : es[j]? = some y) : swp es i j = (es.set i y).set j x := by unfold swp; rw [hi, hj]
theorem swp_len (es : List α) (i j : Nat) : (swp es i j).length = es.length := by unfold swp; split <;> simp
theorem swp_at {es : List α} {i j : Nat} (hi : i < es.length) (hj : j < es.length) (k : Nat) : (swp es i j)[k]? = if k = j then es[i]? else if k = i then es[j]? else es[k]? := by
  rw [swp_eq (List.getElem?_eq_getElem hi) (List.getElem?_eq_getElem hj), List.getElem?_set, List.getElem?_set]
  by_cases h1 : j = k
  · subst h1; simp [hj, hi]
  · rw [if_neg h1, if_neg (Ne.symm h1)]
    by_cases h2 : i = k
    · subst h2; simp [hi, hj]
    · rw [if_neg h2, if_neg (Ne.symm h2)]
theorem swp_perm {es : List α} {i j : Nat} (hi : i < es.length) (hj : j < es.length) : (swp es i j).Perm es := by
  rw [swp_eq (List.getElem?_eq_getElem hi) (List.getElem?_eq_getElem hj)]
  exact List.set_set_perm hi hj
/-- n places from a on change their things with those from b on. -/
def swr (es : List α) (a b : Nat) : Nat → List α
  | 0 => es
  | k + 1 => swp (swr es a b k) (a + k) (b + k)
theorem swr_len (es : List α) (a b : Nat) : ∀ k, (swr es a b k).length = es.length
  | 0 => rfl
  | k + 1 => by unfold swr; rw [swp_len, swr_len es a b k]
theorem swr_at {es : List α} {a b : Nat} : ∀ (n : Nat), a + n ≤ b → b + n ≤ es.length → ∀ i, (swr es a b n)[i]? = if a ≤ i ∧ i < a + n then es[b + (i - a)]? else if b ≤ i ∧ i < b + n then es[a + (i - b)]? else es[i]?
  | 0, _, _, i => by rw [if_neg (by omega), if_neg (by omega)]; rfl
  | n + 1, h1, h2, i => by
    have ih := fun i => swr_at (es := es) (a := a) (b := b) n (by omega) (by omega) i
    have hl := swr_len es a b n
    unfold swr
    rw [swp_at (by omega) (by omega), ih, ih, ih]
    by_cases e1 : i = b + n
    · subst e1
      rw [if_pos rfl, if_neg (by omega), if_neg (by omega), if_neg (by omega), if_pos (by omega)]
      congr 1; omega
    · rw [if_neg e1]
      by_cases e2 : i = a + n
      · subst e2
        rw [if_pos rfl, if_neg (by omega), if_neg (by omega), if_pos (by omega)]
        congr 1; omega
      · rw [if_neg e2]
        by_cases e3 : a ≤ i ∧ i < a + n
        · rw [if_pos e3, if_pos (by omega)]
        · rw [if_neg e3, if_neg (show ¬ (a ≤ i ∧ i < a + (n + 1)) by omega)]
          by_cases e4 : b ≤ i ∧ i < b + n
          · rw [if_pos e4, if_pos (by omega)]
          · rw [if_neg e4, if_neg (by omega)]
/-- Two pieces of one length change places. -/
theorem swr_pieces {X S Y T Z : List α} (h : S.length = T.length) : swr (X ++ S ++ Y ++ T ++ Z) X.length (X.length + S.length + Y.length) S.length = X ++ T ++ Y ++ S ++ Z := by
  apply List.ext_getElem?
  intro i
  rw [swr_at _ (by omega) (by simp; omega)]
  simp only [List.append_assoc]
  by_cases h1 : X.length ≤ i ∧ i < X.length + S.length
  · rw [if_pos h1]
    have e : X.length + S.length + Y.length + (i - X.length) = X.length + (S.length + (Y.length + (i - X.length))) := by omega
    rw [e, List.getElem?_append_right (by omega), List.getElem?_append_right (l₁ := X) (by omega)]
    rw [List.getElem?_append_right (by omega), List.getElem?_append_right (by omega), List.getElem?_append_left (by omega), List.getElem?_append_left (by omega)]
    congr 1; omega
  · rw [if_neg h1]
    by_cases h2 : X.length + S.length + Y.length ≤ i ∧ i < X.length + S.length + Y.length + S.length
    · rw [if_pos h2]
      rw [List.getElem?_append_right (by omega), List.getElem?_append_left (by omega)]
      rw [List.getElem?_append_right (l₁ := X) (by omega), List.getElem?_append_right (l₁ := T) (by omega), List.getElem?_append_right (l₁ := Y) (by omega), List.getElem?_append_left (l₁ := S) (by omega)]
      congr 1; omega
    · rw [if_neg h2]
      by_cases h3 : i < X.length
      · rw [List.getElem?_append_left (by omega), List.getElem?_append_left (by omega)]
      · rw [List.getElem?_append_right (by omega), List.getElem?_append_right (l₁ := X) (by omega), List.getElem?_append_right (by omega), List.getElem?_append_right (l₁ := T) (by omega), h]
        by_cases h4 : i < X.length + S.length + Y.length
        · rw [List.getElem?_append_left (by omega), List.getElem?_append_left (by omega)]
        · rw [List.getElem?_append_right (by omega), List.getElem?_append_right (l₁ := Y) (by omega), List.getElem?_append_right (by omega), List.getElem?_append_right (l₁ := S) (by omega)]
          congr 1; omega
end
end Go.Proofs.Ytklmckbpbloonaa

namespace Go.Proofs.Ytklmckbpbloonaa

def K (es : List Edg) (p : Nat) : Int := ((es[p]?).map Prod.fst).getD 0
theorem K_at {es : List Edg} {p : Nat} {e : Edg} (h : es[p]? = some e) : K es p = e.1 := by unfold K; rw [h]; rfl
theorem K_swp {es : List Edg} {i j : Nat} (hi : i < es.length) (hj : j < es.length) (k : Nat) : K (swp es i j) k = if k = j then K es i else if k = i then K es j else K es k := by
  unfold K
  rw [swp_at hi hj]
  split
  · rfl
  · split <;> rfl
/-- The places from a to b are by rising numbers. -/
def Srt (es : List Edg) (a b : Nat) : Prop := ∀ p q, a ≤ p → p < q → q < b → K es p ≤ K es q
/-- .. but for place j. -/
def SrtX (es : List Edg) (a b j : Nat) : Prop := ∀ p q, a ≤ p → p < q → q < b → q ≠ j → K es p ≤ K es q
/-- The same things; all places but those from a to b as they were. -/
structure Like (a b : Nat) (es es' : List Edg) : Prop where
  perm : es'.Perm es
  out : ∀ p, p < a ∨ b ≤ p → es'[p]? = es[p]?
section
variable {es es' es'' : List Edg} {a b c d i j m : Nat}
theorem Like.len (h : Like a b es es') : es'.length = es.length := h.perm.length_eq
theorem Like.refl (a b : Nat) (es : List Edg) : Like a b es es := ⟨List.Perm.refl _, fun _ _ => rfl⟩
theorem Like.trans (h : Like a b es es') (h' : Like a b es' es'') : Like a b es es'' := ⟨h'.perm.trans h.perm, fun p hp => (h'.out p hp).trans (h.out p hp)⟩
theorem Like.more (h : Like a b es es') (h1 : c ≤ a) (h2 : b ≤ d) : Like c d es es' := ⟨h.perm, fun p hp => h.out p (by omega)⟩
theorem Like.swp (h : Like a b es es') (h1 : a ≤ i) (h2 : a ≤ j) (h3 : i < b) (h4 : j < b) (hb : b ≤ es.length) : Like a b es (swp es' i j) := by
  have hl := h.len
  refine ⟨(swp_perm (by omega) (by omega)).trans h.perm, fun p hp => ?_⟩
  rw [swp_at (by omega) (by omega), if_neg (by omega), if_neg (by omega)]
  exact h.out p hp
theorem Like.key (h : Like a b es es') {p : Nat} (hp : p < a ∨ b ≤ p) : K es' p = K es p := by unfold K; rw [h.out p hp]
theorem Srt.one (es : List Edg) (a : Nat) : Srt es a (a + 1) := fun p q h1 h2 h3 => by omega
theorem Srt.x (h : Srt es a i) : SrtX es a (i + 1) i := fun p q h1 h2 h3 h4 => h p q h1 h2 (by omega)
theorem SrtX.done (h : SrtX es a b j) (hs : j ≤ a ∨ K es (j - 1) ≤ K es j) : Srt es a b := fun p q h1 h2 h3 => by
  by_cases e : q = j
  · subst e
    rcases hs with hs | hs
    · omega
    · by_cases e2 : p = q - 1
      · subst e2; exact hs
      · have := h p (q - 1) h1 (by omega) (by omega) (by omega)
        omega
  · exact h p q h1 h2 h3 e
theorem SrtX.swp (h : SrtX es a b j) (hj : a < j) (hb : j < b) (hl : b ≤ es.length) (hk : K es j < K es (j - 1)) : SrtX (swp es j (j - 1)) a b (j - 1) := fun p q h1 h2 h3 h4 => by
  rw [K_swp (by omega) (by omega), K_swp (by omega) (by omega), if_neg h4]
  by_cases e1 : q = j
  · subst e1
    rw [if_pos rfl]
    by_cases e2 : p = q - 1
    · rw [if_pos e2]; omega
    · rw [if_neg e2, if_neg (by omega)]
      exact h p (q - 1) h1 (by omega) (by omega) (by omega)
  · rw [if_neg e1]
    by_cases e2 : p = j - 1
    · rw [if_pos e2]
      exact h j q (by omega) (by omega) h3 e1
    · rw [if_neg e2]
      by_cases e3 : p = j
      · rw [if_pos e3]
        exact h (j - 1) q (by omega) (by omega) h3 e1
      · rw [if_neg e3]
        exact h p q h1 h2 h3 e1
theorem Srt.like (h : Srt es a b) (hl : Like c d es es') (hd : b ≤ c ∨ d ≤ a) : Srt es' a b := fun p q h1 h2 h3 => by
  rw [hl.key (by omega), hl.key (by omega)]
  exact h p q h1 h2 h3
end
/-- What a number says against another one. -/
def cmpN (x y : Int) : Int := if x < y then -1 else if y < x then 1 else 0
theorem cmpN_lt (x y : Int) : decide (cmpN x y < 0) = decide (x < y) := by
  unfold cmpN
  by_cases h : x < y
  · rw [if_pos h]; simp [h]
  · rw [if_neg h]
    by_cases h2 : y < x
    · rw [if_pos h2]; simp [h]
    · rw [if_neg h2]; simp [h]
end Go.Proofs.Ytklmckbpbloonaa
