/- Parts of the proof: Conn. -/
import Derived.Test.YtklmckbpbloonaaBC1
namespace Go.Proofs.Ytklmckbpbloonaa

/-- y can be reached from x: each set that has x, and with one end of an edge the other one, has y. -/
def Conn (es : List Edg) (x y : Int) : Prop := ∀ S : Int → Prop, S x → (∀ e ∈ es, S e.2.1 ↔ S e.2.2) → S y
theorem Conn.refl (es : List Edg) (x : Int) : Conn es x x := fun _ h _ => h
theorem Conn.trans {es : List Edg} {x y z : Int} (h : Conn es x y) (k : Conn es y z) : Conn es x z := fun S hs hc => k S (h S hs hc) hc
theorem Conn.symm {es : List Edg} {x y : Int} (h : Conn es x y) : Conn es y x := fun S hs hc =>
  Classical.byContradiction fun hn => h (fun z => ¬ S z) hn (fun e he => not_congr (hc e he)) hs
theorem Conn.edge {es : List Edg} {e : Edg} (h : e ∈ es) : Conn es e.2.1 e.2.2 := fun _ hs hc => (hc e h).1 hs
theorem Conn.mono {es es' : List Edg} {x y : Int} (h : Conn es x y) (hsub : ∀ e ∈ es, e ∈ es') : Conn es' x y := fun S hs hc => h S hs fun e he => hc e (hsub e he)
/-- What is reached lies among the ends, but for the beginning. -/
theorem Conn.mem {es : List Edg} {x y : Int} (h : Conn es x y) : y = x ∨ ∃ e ∈ es, y = e.2.1 ∨ y = e.2.2 := by
  refine h (fun z => z = x ∨ ∃ e ∈ es, z = e.2.1 ∨ z = e.2.2) (.inl rfl) fun e he => ?_
  exact ⟨fun _ => .inr ⟨e, he, .inr rfl⟩, fun _ => .inr ⟨e, he, .inl rfl⟩⟩

def mxI (a b : Int) : Int := if b > a then b else a
def mnI (a b : Int) : Int := if b < a then b else a
/-- One edge: all that bear the higher one of its ends' labels bear the lower one. -/
def lstep (f : Int → Int) (e : Edg) : Int → Int := fun v => if f v = mxI (f e.2.1) (f e.2.2) then mnI (f e.2.1) (f e.2.2) else f v
def labF (es : List Edg) (f : Int → Int) : Int → Int := es.foldl lstep f
def lab (es : List Edg) : Int → Int := labF es id
theorem labF_append (es : List Edg) (e : Edg) (f : Int → Int) : labF (es ++ [e]) f = lstep (labF es f) e := by unfold labF; rw [List.foldl_append]; rfl
theorem mxI_mnI (a b : Int) : (mxI a b = a ∧ mnI a b = b ∧ b ≤ a) ∨ (mxI a b = b ∧ mnI a b = a ∧ a ≤ b) := by
  unfold mxI mnI; split <;> split <;> omega

/-- What holds of the labels behind some edges. -/
theorem lab_facts (es : List Edg) : (∀ v, Conn es v (lab es v)) ∧ (∀ v, lab es v ≤ v) ∧ (∀ e ∈ es, lab es e.2.1 = lab es e.2.2) := by
  have key : ∀ (n : Nat) (es : List Edg), es.length = n → (∀ v, Conn es v (lab es v)) ∧ (∀ v, lab es v ≤ v) ∧ (∀ e ∈ es, lab es e.2.1 = lab es e.2.2) := by
    intro n
    induction n with
    | zero =>
      intro es h
      have : es = [] := List.eq_nil_of_length_eq_zero h
      subst this
      exact ⟨fun v => Conn.refl _ _, fun v => Int.le_refl _, fun e he => by cases he⟩
    | succ n ih =>
      intro es h
      have hne : es ≠ [] := by intro e; subst e; simp at h
      obtain ⟨es', e, rfl⟩ : ∃ es' e, es = es' ++ [e] := ⟨es.dropLast, es.getLast hne, (List.dropLast_concat_getLast hne).symm⟩
      obtain ⟨h1, h2, h3⟩ := ih es' (by simp at h; omega)
      have hs : lab (es' ++ [e]) = lstep (lab es') e := labF_append es' e id
      have hsub : ∀ x ∈ es', x ∈ es' ++ [e] := fun x hx => List.mem_append_left _ hx
      have c0 : ∀ v, Conn (es' ++ [e]) v (lab es' v) := fun v => (h1 v).mono hsub
      have hedge : Conn (es' ++ [e]) e.2.1 e.2.2 := Conn.edge (by simp)
      have hab : Conn (es' ++ [e]) (lab es' e.2.1) (lab es' e.2.2) := ((c0 _).symm.trans hedge).trans (c0 _)
      rw [hs]
      have hm := mxI_mnI (lab es' e.2.1) (lab es' e.2.2)
      refine ⟨fun v => ?_, fun v => ?_, fun x hx => ?_⟩
      · unfold lstep
        split
        · rename_i hv
          refine (c0 v).trans ?_
          rw [hv]
          rcases hm with ⟨a, b, _⟩ | ⟨a, b, _⟩ <;> rw [a, b]
          · exact hab
          · exact hab.symm
        · exact c0 v
      · have := h2 v
        unfold lstep
        split
        · rename_i hv
          rcases hm with ⟨a, b, c⟩ | ⟨a, b, c⟩ <;> omega
        · exact this
      · rcases List.mem_append.1 hx with hx | hx
        · unfold lstep; rw [h3 x hx]
        · simp only [List.mem_singleton] at hx
          subst hx
          unfold lstep
          rcases hm with ⟨a, b, _⟩ | ⟨a, b, _⟩ <;> rw [a, b]
          · simp only [if_true]
            split
            · rfl
            · rfl
          · simp only [if_true]
            split <;> rfl
  exact key es.length es rfl
theorem lab_conn (es : List Edg) (v : Int) : Conn es v (lab es v) := (lab_facts es).1 v
theorem lab_le (es : List Edg) (v : Int) : lab es v ≤ v := (lab_facts es).2.1 v
theorem lab_iff {es : List Edg} {x y : Int} : lab es x = lab es y ↔ Conn es x y :=
  ⟨fun h => (lab_conn es x).trans (h ▸ (lab_conn es y).symm), fun h => (h (fun z => lab es z = lab es x) rfl fun e he => by rw [(lab_facts es).2.2 e he]).symm⟩
theorem lab_lab (es : List Edg) (v : Int) : lab es (lab es v) = lab es v := lab_iff.2 (lab_conn es v).symm

/-- The part of v; the parts, by their first ones. -/
def partL (vs : List Int) (es : List Edg) (v : Int) : List Int := vs.filter fun x => lab es x == lab es v
def partsL (vs : List Int) (es : List Edg) : List (List Int) := (vs.filter fun v => lab es v == v).map fun r => vs.filter fun x => lab es x == r
theorem labF_take_succ {es : List Edg} {k : Nat} {e : Edg} (h : es[k]? = some e) (f : Int → Int) : labF (es.take (k + 1)) f = lstep (labF (es.take k) f) e := by
  rw [take_at h, labF_append]

/-- Of rising vertices, with all ends: the first one of a part is its label. -/
theorem lab_mem {vs : List Int} {es : List Edg} (hends : ∀ e ∈ es, e.2.1 ∈ vs ∧ e.2.2 ∈ vs) {v : Int} (hv : v ∈ vs) : lab es v ∈ vs := by
  rcases (lab_conn es v).mem with h | ⟨e, he, h | h⟩
  · rw [h]; exact hv
  · rw [h]; exact (hends e he).1
  · rw [h]; exact (hends e he).2
theorem head_of_min {l : List Int} (hs : l.Pairwise (· < ·)) {m : Int} (hm : m ∈ l) (hle : ∀ x ∈ l, m ≤ x) : l[0]? = some m := by
  cases l with
  | nil => cases hm
  | cons y ys =>
    simp only [List.getElem?_cons_zero, Option.some.injEq]
    rcases List.mem_cons.1 hm with rfl | hm
    · rfl
    · have h1 := (List.pairwise_cons.1 hs).1 m hm
      have h2 := hle y List.mem_cons_self
      omega
theorem part_head {vs : List Int} {es : List Edg} (hs : vs.Pairwise (· < ·)) (hends : ∀ e ∈ es, e.2.1 ∈ vs ∧ e.2.2 ∈ vs) {v : Int} (hv : v ∈ vs) : (partL vs es v)[0]? = some (lab es v) := by
  refine head_of_min (hs.sublist List.filter_sublist) ?_ fun x hx => ?_
  · rw [List.mem_filter]; exact ⟨lab_mem hends hv, by rw [lab_lab]; simp⟩
  · rw [List.mem_filter] at hx
    have : lab es x = lab es v := by simpa using hx.2
    rw [← this]; exact lab_le es x
def partsTo (vs : List Int) (es : List Edg) (k : Nat) : List (List Int) := ((vs.take k).filter fun v => lab es v == v).map fun r => vs.filter fun x => lab es x == r
theorem partsTo_all (vs : List Int) (es : List Edg) : partsTo vs es vs.length = partsL vs es := by unfold partsTo partsL; rw [List.take_length]
theorem partsTo_succ {vs : List Int} {es : List Edg} {k : Nat} {v : Int} (h : vs[k]? = some v) : partsTo vs es (k + 1) = partsTo vs es k ++ if lab es v = v then [partL vs es v] else [] := by
  unfold partsTo; rw [take_at h, List.filter_append, List.map_append]
  congr 1
  simp only [List.filter_cons, List.filter_nil]
  by_cases e : lab es v = v
  · rw [if_pos (by simp [e]), if_pos e]; simp [partL, e]
  · rw [if_neg (by simp [e]), if_neg e]; rfl
theorem partsTo_len (vs : List Int) (es : List Edg) (k : Nat) : (partsTo vs es k).length ≤ k := by
  unfold partsTo
  rw [List.length_map]
  have h1 := List.length_filter_le (fun v => lab es v == v) (vs.take k)
  have h2 := List.length_take_le k vs
  omega
end Go.Proofs.Ytklmckbpbloonaa
