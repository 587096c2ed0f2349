/- Maps with integer keys, as lists of keys and elements in the order in which they came in: made, asked, written, gone through. -/
import Derived.Test.YtnbaamjdlgojaaaBase
import Derived.Maps.RangeRun
import Derived.Maps.OwnOps
import Derived.Maps.RangeWalk
namespace Go.Proofs.Ytnbaamjdlgojaaa
open Go.RowKit
open Go.ChangeMaps (setBlock)

section
variable {α : Type}
def mget (m : List (Int × α)) (k : Int) : Option α := (m.find? (·.1 == k)).map (·.2)
def mput (m : List (Int × α)) (k : Int) (v : α) : List (Int × α) := if (mget m k).isSome then m.map fun p => if p.1 == k then (k, v) else p else m ++ [(k, v)]
def mkeys (m : List (Int × α)) : List Int := m.map (·.1)
theorem mget_none {m : List (Int × α)} {k : Int} : mget m k = none ↔ k ∉ mkeys m := by
  unfold mget mkeys
  rw [Option.map_eq_none_iff, List.find?_eq_none]
  simp only [List.mem_map, not_exists, not_and]
  exact ⟨fun h p hp e => h p hp (by simp [e]), fun h p hp e => h p hp (by simpa using e)⟩
theorem mget_some {m : List (Int × α)} {k : Int} : (mget m k).isSome = true ↔ k ∈ mkeys m := by
  cases h : mget m k with
  | none => have := mget_none.1 h; simp [this]
  | some v =>
    simp only [Option.isSome_some, true_iff]
    refine Classical.byContradiction fun hn => ?_
    rw [mget_none.2 hn] at h; cases h
theorem mget_mem {m : List (Int × α)} {k : Int} {v : α} (h : mget m k = some v) : (k, v) ∈ m := by
  unfold mget at h
  obtain ⟨p, hp, e⟩ := Option.map_eq_some_iff.1 h
  have h1 := List.mem_of_find?_eq_some hp
  have h2 := List.find?_some hp
  simp at h2
  obtain ⟨a, b⟩ := p
  simp at e h2
  subst e; subst h2; exact h1
theorem mget_of_mem {m : List (Int × α)} (hn : (mkeys m).Nodup) {k : Int} {v : α} (h : (k, v) ∈ m) : mget m k = some v := by
  induction m with
  | nil => cases h
  | cons p m ih =>
    obtain ⟨a, b⟩ := p
    simp only [mkeys, List.map_cons, List.nodup_cons] at hn
    unfold mget
    rw [List.find?_cons]
    rcases List.mem_cons.1 h with e | e
    · cases e; simp
    · have hne : (a == k) = false := by
        simp only [beq_eq_false_iff_ne]; rintro rfl
        exact hn.1 (List.mem_map.2 ⟨_, e, rfl⟩)
      simp only [hne]
      exact ih hn.2 e
theorem mkeys_mput (m : List (Int × α)) (k : Int) (v : α) : mkeys (mput m k v) = if k ∈ mkeys m then mkeys m else mkeys m ++ [k] := by
  unfold mput
  by_cases h : k ∈ mkeys m
  · rw [if_pos (mget_some.2 h), if_pos h]
    unfold mkeys
    rw [List.map_map]
    refine List.map_congr_left fun p _ => ?_
    show (if p.1 == k then (k, v) else p).1 = p.1
    split
    · rename_i e; simpa using (by simpa using e : p.1 = k).symm
    · rfl
  · rw [if_neg (by rw [mget_some]; exact h), if_neg h]
    simp [mkeys]
theorem nodup_mput {m : List (Int × α)} (hn : (mkeys m).Nodup) (k : Int) (v : α) : (mkeys (mput m k v)).Nodup := by
  rw [mkeys_mput]
  split
  · exact hn
  · rename_i h
    refine List.nodup_append.2 ⟨hn, by simp, ?_⟩
    intro a ha b hb
    simp only [List.mem_singleton] at hb
    subst hb; rintro rfl; exact h ha
theorem mget_mput {m : List (Int × α)} (k : Int) (v : α) (j : Int) : mget (mput m k v) j = if j = k then some v else mget m j := by
  unfold mput
  by_cases h : (mget m k).isSome
  · rw [if_pos h]
    have hk := mget_some.1 h
    clear h
    induction m with
    | nil => simp [mkeys] at hk
    | cons p m ih =>
      obtain ⟨a, b⟩ := p
      unfold mget
      simp only [List.map_cons, List.find?_cons]
      by_cases e : a = k
      · subst e
        by_cases ej : j = a
        · subst ej; simp
        · have h1 : (a == j) = false := by simp [Ne.symm ej]
          simp only [beq_self_eq_true, if_true, h1, if_neg ej]
          -- the rest
          clear ih hk
          induction m with
          | nil => rfl
          | cons p m ih2 =>
            simp only [List.map_cons, List.find?_cons]
            obtain ⟨c, d⟩ := p
            by_cases e2 : c = a
            · subst e2
              simp only [beq_self_eq_true, if_true, h1]
              exact ih2
            · have h2 : (c == a) = false := by simp [e2]
              simp only [h2, Bool.false_eq_true, if_false]
              by_cases e3 : c = j
              · subst e3; simp
              · have h3 : (c == j) = false := by simp [e3]
                simp only [h3]
                exact ih2
      · have h2 : (a == k) = false := by simp [e]
        simp only [h2, Bool.false_eq_true, if_false]
        by_cases e3 : a = j
        · subst e3; simp [e]
        · have h3 : (a == j) = false := by simp [e3]
          simp only [h3]
          exact ih (by simpa [mkeys, Ne.symm e] using hk)
  · rw [if_neg h]
    unfold mget
    rw [List.find?_append]
    by_cases ej : j = k
    · subst ej
      have : m.find? (fun x => x.1 == j) = none := by
        have h0 : mget m j = none := by simpa using h
        unfold mget at h0; simpa using h0
      rw [this]; simp
    · have h1 : (k == j) = false := by simp [Ne.symm ej]
      simp [h1, ej]
end

theorem nodup_of_map {α β : Type} {f : α → β} {l : List α} (h : (l.map f).Nodup) : l.Nodup := by
  unfold List.Nodup at h ⊢
  rw [List.pairwise_map] at h
  exact h.imp fun hne e => hne (by rw [e])
theorem erase_map {l : List MapEntry} (hb : (l.map (·.born)).Nodup) (hk : (l.map (·.key)).Nodup) {e : MapEntry} (he : e ∈ l) {q : IntKind} {left : List Int} (hl : l.map (·.key) = left.map (Value.int q)) {k : Int} (hek : e.key = .int q k) :
    (l.filter fun x => !(x.born == e.born)).map (·.key) = (left.erase k).map (Value.int q) := by
  induction l generalizing left with
  | nil => cases he
  | cons x l ih =>
    cases left with
    | nil => simp at hl
    | cons y left =>
      simp only [List.map_cons, List.cons.injEq] at hl
      simp only [List.map_cons, List.nodup_cons] at hb hk
      rw [List.filter_cons]
      rcases List.mem_cons.1 he with rfl | he
      · have hy : y = k := by have := hl.1.symm.trans hek; injection this
        subst hy
        simp only [beq_self_eq_true, Bool.not_true, Bool.false_eq_true, if_false, List.erase_cons_head]
        rw [← hl.2, List.filter_eq_self.2]
        intro z hz
        have : z.born ≠ e.born := fun e1 => hb.1 (by rw [← e1]; exact List.mem_map.2 ⟨z, hz, rfl⟩)
        simp [this]
      · have hne : x.born ≠ e.born := fun e1 => hb.1 (by rw [e1]; exact List.mem_map.2 ⟨e, he, rfl⟩)
        have hny : y ≠ k := by
          rintro rfl
          exact hk.1 (by rw [hl.1, ← hek]; exact List.mem_map.2 ⟨e, he, rfl⟩)
        have h1 : (!(x.born == e.born)) = true := by simp [hne]
        rw [if_pos h1, List.map_cons, ih hb.2 hk.2 he hl.2, List.erase_cons_tail (by simp [hny]), List.map_cons, hl.1]

section
variable {α : Type} {P : Program}
/-- Block b is a map with keys of kind q that holds just m. -/
def MapOf (w : World) (b : Nat) (q : IntKind) (enc : α → Value) (m : List (Int × α)) : Prop :=
  ∃ es clock, w.heap[b]? = some (.map es clock) ∧ MapKept.Stamped es clock ∧ es.toList.map (fun e => (e.key, e.val)) = m.map fun p => (Value.int q p.1, enc p.2)

theorem MapOf.lt {w : World} {b : Nat} {q : IntKind} {enc : α → Value} {m : List (Int × α)} (h : MapOf w b q enc m) : b < w.heap.size := by
  obtain ⟨es, clock, hb, _⟩ := h
  exact (Array.getElem?_eq_some_iff.1 hb).1
theorem MapOf.made (w : World) (q : IntKind) (enc : α → Value) : MapOf (w.alloc (.map #[] 0)) w.heap.size q enc [] :=
  ⟨#[], 0, heap_alloc_new w _, MapKept.stamped_empty 0, rfl⟩
theorem MapOf.block {w w' : World} {b : Nat} {q : IntKind} {enc : α → Value} {m : List (Int × α)} (h : MapOf w b q enc m) (e : w'.heap[b]? = w.heap[b]?) : MapOf w' b q enc m := by
  obtain ⟨es, clock, hb, h⟩ := h
  exact ⟨es, clock, e.trans hb, h⟩
theorem MapOf.drew {w : World} {b : Nat} {q : IntKind} {enc : α → Value} {m : List (Int × α)} (h : MapOf w b q enc m) : MapOf w.drew b q enc m := h
theorem MapOf.drewN {w : World} {b : Nat} {q : IntKind} {enc : α → Value} {m : List (Int × α)} (h : MapOf w b q enc m) (n : Nat) : MapOf (w.drewN n) b q enc m := h
theorem MapOf.alloc {w : World} {b : Nat} {q : IntKind} {enc : α → Value} {m : List (Int × α)} (h : MapOf w b q enc m) (o : Obj) : MapOf (w.alloc o) b q enc m := h.block (Below.heap_alloc w o b h.lt)
theorem MapOf.below {w w' : World} {b B : Nat} {q : IntKind} {enc : α → Value} {m : List (Int × α)} (h : MapOf w b q enc m) (hb : Below B w w') (hB : b < B) : MapOf w' b q enc m := h.block (hb.block b hB)
theorem MapOf.grown {w w' : World} {b : Nat} {row : Option Nat} {q : IntKind} {enc : α → Value} {m : List (Int × α)} (h : MapOf w b q enc m) (hg : w.grownBy w' row) (hne : some b ≠ row) : MapOf w' b q enc m := h.block (hg.block b h.lt hne)
theorem MapOf.setCell {w : World} {b : Nat} {q : IntKind} {enc : α → Value} {m : List (Int × α)} (h : MapOf w b q enc m) {p : Addr} (hp : b ≠ p.block) (u : Value) : MapOf (w.setCell p u) b q enc m := h.block (Below.heap_setCell w p u b hp)

theorem keys_of_map {q : IntKind} {enc : α → Value} {es : Array MapEntry} {m : List (Int × α)} (h : es.toList.map (fun e => (e.key, e.val)) = m.map fun p => (Value.int q p.1, enc p.2)) :
    es.toList.map (·.key) = (mkeys m).map (Value.int q) := by
  have := congrArg (List.map Prod.fst) h
  simpa [mkeys, List.map_map, Function.comp_def] using this
theorem MapOf.nodup {w : World} {b : Nat} {q : IntKind} {enc : α → Value} {m : List (Int × α)} (h : MapOf w b q enc m) : (mkeys m).Nodup := by
  obtain ⟨es, clock, hb, hs, hm⟩ := h
  have h3 := hs.2.2
  rw [keys_of_map hm] at h3
  exact nodup_of_map h3
theorem isKey_of_map {q : IntKind} {enc : α → Value} {es : Array MapEntry} {m : List (Int × α)} (h : es.toList.map (fun e => (e.key, e.val)) = m.map fun p => (Value.int q p.1, enc p.2)) :
    ∀ x ∈ es.toList, MapKept.IsKey (.int q) x.key := by
  intro x hx
  have : x.key ∈ es.toList.map (·.key) := List.mem_map.2 ⟨x, hx, rfl⟩
  rw [keys_of_map h] at this
  obtain ⟨k, _, e⟩ := List.mem_map.1 this
  rw [← e]; rfl

/-- A map's block is no row of cells. -/
theorem MapOf.ne_cells {w : World} {b : Nat} {q : IntKind} {enc : α → Value} {m : List (Int × α)} (h : MapOf w b q enc m) {g : Nat} {cs : Array Value} {t : TypeId} {f : Nat × Nat} (hc : w.heap[g]? = some (.cells cs t f)) : b ≠ g := by
  obtain ⟨es, clock, hb, _⟩ := h
  rintro rfl
  rw [hb] at hc
  cases hc

/-- What the model finds at a key. -/
theorem find_map {q : IntKind} {enc : α → Value} {es : Array MapEntry} {m : List (Int × α)} (h : es.toList.map (fun e => (e.key, e.val)) = m.map fun p => (Value.int q p.1, enc p.2)) (hn : (mkeys m).Nodup) (k : Int) :
    (Instr.findNow (.int q) (.int q k) es.toList 0 = some none ∧ mget m k = none ∧ ∀ x ∈ es.toList, x.key ≠ .int q k) ∨
    ∃ j e v, Instr.findNow (.int q) (.int q k) es.toList 0 = some (some (j, enc v)) ∧ es.toList[j]? = some e ∧ e.key = .int q k ∧ e.val = enc v ∧ mget m k = some v ∧ m[j]? = some (k, v) := by
  rcases MapKept.findNow_spec (d := .int q) (k := .int q k) rfl es.toList 0 (isKey_of_map h) with ⟨h1, h2⟩ | ⟨j, e, h1, h2, h3⟩
  · refine .inl ⟨h1, mget_none.2 fun hk => ?_, h2⟩
    have : Value.int q k ∈ es.toList.map (·.key) := by rw [keys_of_map h]; exact List.mem_map.2 ⟨k, hk, rfl⟩
    obtain ⟨x, hx, e⟩ := List.mem_map.1 this
    exact h2 x hx e
  · have e1 : (m.map fun p => (Value.int q p.1, enc p.2))[j]? = some (e.key, e.val) := by rw [← h, List.getElem?_map, h2]; rfl
    rw [List.getElem?_map] at e1
    obtain ⟨p, hp, e2⟩ := Option.map_eq_some_iff.1 e1
    obtain ⟨a, v⟩ := p
    simp only [Prod.mk.injEq] at e2
    have ha : a = k := by have := e2.1.trans h3; injection this
    subst ha
    refine .inr ⟨j, e, v, ?_, h2, h3, e2.2.symm, mget_of_mem hn (List.mem_of_getElem? hp), hp⟩
    rw [h1, Nat.zero_add, ← e2.2]

theorem MapOf.lookup {w : World} {b : Nat} {q : IntKind} {enc : α → Value} {m : List (Int × α)} (h : MapOf w b q enc m) {t K E : TypeId} (ht : P.underlying t = some (.map K E)) (hK : P.underlying K = some (.int q)) {z : Value} (hz : (zeroValue E).run P w = .ok z w) (k : Int) :
    (Instr.lookup t (.map (some b)) (.int q k) false).run P w = .ok (((mget m k).map enc).getD z) w := by
  have hn := h.nodup
  obtain ⟨es, clock, hb, hs, hm⟩ := h
  have hck := MapKept.run_checkKey (P := P) (w := w) (kt := K) (d := .int q) (k := .int q k) hK rfl es.isEmpty 9999
  rcases find_map hm hn k with ⟨h1, h2, _⟩ | ⟨j, e, v, h1, _, _, _, h2, _⟩
  · simp [Instr.lookup, run_underlying ht, MapKept.run_getObj_map hb, hck, MapKept.run_findKey hK h1, hz, h2, Result.andThen]
  · simp [Instr.lookup, run_underlying ht, MapKept.run_getObj_map hb, hck, MapKept.run_findKey hK h1, h2, Result.andThen]
theorem MapOf.lookupOk {w : World} {b : Nat} {q : IntKind} {enc : α → Value} {m : List (Int × α)} (h : MapOf w b q enc m) {t K E : TypeId} (ht : P.underlying t = some (.map K E)) (hK : P.underlying K = some (.int q)) {z : Value} (hz : (zeroValue E).run P w = .ok z w) (k : Int) :
    (Instr.lookup t (.map (some b)) (.int q k) true).run P w = .ok (.tuple #[((mget m k).map enc).getD z, .bool (mget m k).isSome]) w := by
  have hn := h.nodup
  obtain ⟨es, clock, hb, hs, hm⟩ := h
  have hck := MapKept.run_checkKey (P := P) (w := w) (kt := K) (d := .int q) (k := .int q k) hK rfl es.isEmpty 9999
  rcases find_map hm hn k with ⟨h1, h2, _⟩ | ⟨j, e, v, h1, _, _, _, h2, _⟩
  · simp [Instr.lookup, run_underlying ht, MapKept.run_getObj_map hb, hck, MapKept.run_findKey hK h1, hz, h2, Result.andThen]
  · simp [Instr.lookup, run_underlying ht, MapKept.run_getObj_map hb, hck, MapKept.run_findKey hK h1, h2, Result.andThen]

/-- The entries behind a store at a key. -/
theorem put_entries {q : IntKind} {enc : α → Value} {es : Array MapEntry} {clock : Nat} {m : List (Int × α)} (hs : MapKept.Stamped es clock) (hm : es.toList.map (fun e => (e.key, e.val)) = m.map fun p => (Value.int q p.1, enc p.2)) (hn : (mkeys m).Nodup) (k : Int) (v : α) :
    (mget m k = none ∧ Instr.findNow (.int q) (.int q k) es.toList 0 = some none ∧ MapKept.Stamped (es.push ⟨.int q k, enc v, clock⟩) (clock + 1) ∧
      (es.push ⟨.int q k, enc v, clock⟩).toList.map (fun e => (e.key, e.val)) = (mput m k v).map fun p => (Value.int q p.1, enc p.2)) ∨
    ∃ j u e, (mget m k).isSome = true ∧ Instr.findNow (.int q) (.int q k) es.toList 0 = some (some (j, u)) ∧ es[j]? = some e ∧ e.key = .int q k ∧
      MapKept.Stamped (es.modify j fun e => { e with key := .int q k, val := enc v }) clock ∧
      (es.modify j fun e => { e with key := .int q k, val := enc v }).toList.map (fun e => (e.key, e.val)) = ((mput m k v).map fun p => (Value.int q p.1, enc p.2)) ∧
      (es.modify j fun e => { e with key := .int q k, val := enc v }).toList.map (·.born) = es.toList.map (·.born) := by
  rcases find_map hm hn k with ⟨h1, h2, h3⟩ | ⟨j, e, u, h1, h2, h3, h4, h5, h6⟩
  · refine .inl ⟨h2, h1, MapKept.stamped_push hs h3, ?_⟩
    unfold mput; rw [if_neg (by simp [h2])]
    simp [hm]
  · have hj : es[j]? = some e := by rw [← Array.getElem?_toList]; exact h2
    refine .inr ⟨j, enc u, e, by simp [h5], h1, hj, h3, MapKept.stamped_modify hs j _ (fun _ _ => rfl) (fun e' _ he' => ?_), ?_, ?_⟩
    · rw [hj] at he'; injection he' with he'; subst he'; exact h3.symm
    · unfold mput; rw [if_pos (by simp [h5])]
      apply List.ext_getElem?
      intro i
      have hi := congrArg (fun l => l[i]?) hm
      simp only [List.getElem?_map, Array.getElem?_toList, Array.getElem?_modify] at hi ⊢
      by_cases hij : j = i
      · subst hij
        simp [hj, h6]
      · simp only [hij, if_false]
        rw [hi]
        cases hmi : m[i]? with
        | none => simp
        | some p =>
          have hne : ¬ p.1 = k := by
            rintro rfl
            have a1 : (mkeys m)[i]? = some p.1 := by simp [mkeys, hmi]
            have a2 : (mkeys m)[j]? = some p.1 := by simp [mkeys, h6]
            obtain ⟨b1, c1⟩ := List.getElem?_eq_some_iff.1 a1
            obtain ⟨b2, c2⟩ := List.getElem?_eq_some_iff.1 a2
            exact hij ((List.getElem_inj hn).1 (c2.trans c1.symm))
          simp [hne]
    · apply List.ext_getElem?
      intro i
      simp only [List.getElem?_map, Array.getElem?_toList, Array.getElem?_modify]
      by_cases hij : j = i
      · subst hij; simp [hj]
      · simp [hij]

theorem keyStays (q : IntKind) (k : Int) (w : World) : (Instr.keyThatStays (.int q k) (.int q k)).run P w = .ok (.int q k) w := by
  have : Instr.sameBits 10000 (.int q k) (.int q k) = true := by simp [Instr.sameBits]
  simp [Instr.keyThatStays, this]

theorem grown_setBlock {w : World} {b : Nat} {o o' : Obj} (hb : w.heap[b]? = some o) : w.grownBy (setBlock w b o') (some b) := by
  refine ⟨rfl, rfl, rfl, by simp [setBlock], fun k _ hk => ?_⟩
  exact (MapKept.heap_set hb).2 k (fun e => hk (by rw [e]))

theorem MapOf.update {w : World} {b : Nat} {q : IntKind} {enc : α → Value} {m : List (Int × α)} (h : MapOf w b q enc m) {t K E : TypeId} (ht : P.underlying t = some (.map K E)) (hK : P.underlying K = some (.int q)) (k : Int) (v : α) :
    ∃ w', (Instr.mapUpdate t (.map (some b)) (.int q k) (enc v)).run P w = .ok () w' ∧ MapOf w' b q enc (mput m k v) ∧ w.grownBy w' (some b) ∧ w'.heap.size = w.heap.size := by
  have hn := h.nodup
  obtain ⟨es, clock, hb, hs, hm⟩ := h
  have hck := MapKept.run_checkKey (P := P) (w := w) (kt := K) (d := .int q) (k := .int q k) hK rfl false 9999
  rcases put_entries hs hm hn k v with ⟨h0, h1, h2, h3⟩ | ⟨j, u, e, h0, h1, h2, h3, h4, h5, _⟩
  · refine ⟨setBlock w b (.map (es.push ⟨.int q k, enc v, clock⟩) (clock + 1)), ?_, ⟨_, _, (MapKept.heap_set hb).1, h2, h3⟩, grown_setBlock hb, by simp [setBlock]⟩
    simp [Instr.mapUpdate, run_underlying ht, MapKept.run_getObj_map hb, hck, MapKept.run_findKey hK h1, MapKept.run_setObj_map _ hb, Result.andThen, setBlock]
  · refine ⟨setBlock w b (.map (es.modify j fun e => { e with key := .int q k, val := enc v }) clock), ?_, ⟨_, _, (MapKept.heap_set hb).1, h4, h5⟩, grown_setBlock hb, by simp [setBlock]⟩
    simp [Instr.mapUpdate, run_underlying ht, MapKept.run_getObj_map hb, hck, MapKept.run_findKey hK h1, h2, h3, keyStays, MapKept.run_setObj_map _ hb, Result.andThen, setBlock]

/-! Going through. 'left': the keys that are still to come. -/
def Iter (w : World) (b r : Nat) (q : IntKind) (enc : α → Value) (m : List (Int × α)) (left : List Int) : Prop :=
  ∃ es clock since seen c0, w.heap[b]? = some (.map es clock) ∧ MapKept.Stamped es clock ∧ es.toList.map (fun e => (e.key, e.val)) = (m.map fun p => (Value.int q p.1, enc p.2)) ∧
    w.heap[r]? = some (.mapIter (some b) since seen c0) ∧ (∀ x ∈ es.toList, x.born < since) ∧ since ≤ c0 ∧ since ≤ clock ∧
    (es.toList.filter fun e => !seen.contains e.born).map (·.key) = left.map (Value.int q)
theorem Iter.map {w : World} {b r : Nat} {q : IntKind} {enc : α → Value} {m : List (Int × α)} {left : List Int} (h : Iter w b r q enc m left) : MapOf w b q enc m := by
  obtain ⟨es, clock, since, seen, c0, h1, h2, h3, _⟩ := h
  exact ⟨es, clock, h1, h2, h3⟩
theorem Iter.lt {w : World} {b r : Nat} {q : IntKind} {enc : α → Value} {m : List (Int × α)} {left : List Int} (h : Iter w b r q enc m left) : r < w.heap.size ∧ b ≠ r := by
  obtain ⟨es, clock, since, seen, c0, h1, h2, h3, h4, _⟩ := h
  exact ⟨(Array.getElem?_eq_some_iff.1 h4).1, by rintro rfl; rw [h1] at h4; cases h4⟩
theorem Iter.blocks {w w' : World} {b r : Nat} {q : IntKind} {enc : α → Value} {m : List (Int × α)} {left : List Int} (h : Iter w b r q enc m left) (e1 : w'.heap[b]? = w.heap[b]?) (e2 : w'.heap[r]? = w.heap[r]?) : Iter w' b r q enc m left := by
  obtain ⟨es, clock, since, seen, c0, h1, h2, h3, h4, h5⟩ := h
  exact ⟨es, clock, since, seen, c0, e1.trans h1, h2, h3, e2.trans h4, h5⟩
theorem Iter.alloc {w : World} {b r : Nat} {q : IntKind} {enc : α → Value} {m : List (Int × α)} {left : List Int} (h : Iter w b r q enc m left) (o : Obj) : Iter (w.alloc o) b r q enc m left :=
  h.blocks (Below.heap_alloc w o b h.map.lt) (Below.heap_alloc w o r h.lt.1)
theorem Iter.grown {w w' : World} {b r : Nat} {row : Option Nat} {q : IntKind} {enc : α → Value} {m : List (Int × α)} {left : List Int} (h : Iter w b r q enc m left) (hg : w.grownBy w' row) (hb : some b ≠ row) (hr : some r ≠ row) : Iter w' b r q enc m left :=
  h.blocks (hg.block b h.map.lt hb) (hg.block r h.lt.1 hr)
theorem MapOf.range {w : World} {b : Nat} {q : IntKind} {enc : α → Value} {m : List (Int × α)} (h : MapOf w b q enc m) {t K E : TypeId} (ht : P.underlying t = some (.map K E)) :
    ∃ w', (Instr.range t (.map (some b))).run P w = .ok (.pointer (some ⟨w.heap.size, 0, none⟩)) w' ∧ Iter w' b w.heap.size q enc m (mkeys m) ∧ w.grownBy w' none ∧ w'.heap.size = w.heap.size + 1 := by
  have hlt := h.lt
  obtain ⟨es, clock, hb, hs, hm⟩ := h
  refine ⟨w.alloc (.mapIter (some b) clock #[] clock), run_range_map w t K E b es clock ht hb, ⟨es, clock, clock, #[], clock, ?_, hs, hm, heap_alloc_new w _, hs.1, Nat.le_refl _, Nat.le_refl _, ?_⟩, World.grownBy_alloc _ _ _, by simp⟩
  · rw [Below.heap_alloc _ _ _ hlt]; exact hb
  · rw [← keys_of_map hm, List.filter_eq_self.2]; simp
theorem Iter.next {w : World} {b r : Nat} {q : IntKind} {enc : α → Value} {m : List (Int × α)} {left : List Int} (h : Iter w b r q enc m left) (ty : TypeId) :
    (left = [] ∧ (Instr.next (.pointer (some ⟨r, 0, none⟩)) false ty).run P w = .ok (.tuple #[.bool false]) w) ∨
    ∃ k v w', k ∈ left ∧ left.Nodup ∧ mget m k = some v ∧ (Instr.next (.pointer (some ⟨r, 0, none⟩)) false ty).run P w = .ok (.tuple #[.bool true, .int q k, enc v]) w' ∧ Iter w' b r q enc m (left.erase k) ∧
      w.grownBy w' (some r) ∧ w'.heap.size = w.heap.size ∧ (Instr.entry (.pointer (some ⟨r, 0, none⟩))).run P w' = .ok (.tuple #[.int q k, enc v]) w' := by
  have hn := h.map.nodup
  have hbr := h.lt.2
  obtain ⟨es, clock, since, seen, c0, hb, hs, hm, hr, hold, hsc, hcl, hleft⟩ := h
  have hleft' : (leftOf es seen).toList.map (·.key) = left.map (Value.int q) := by rw [← hleft]; simp [leftOf]
  have hln : left.Nodup := by
    have h3 : (es.toList.map (·.key)).Nodup := hs.2.2
    have h4 : ((es.toList.filter fun e => !seen.contains e.born).map (·.key)).Nodup := (List.filter_sublist.map _).nodup h3
    rw [hleft] at h4
    exact nodup_of_map h4
  rcases run_next_at (P := P) w ty r b since c0 seen es clock hr hb hold hsc with ⟨h1, h2⟩ | ⟨e, he, w1, hw1, hrun⟩
  · refine .inl ⟨?_, h2⟩
    have : left.length = 0 := by have := congrArg List.length hleft'; simp at this; omega
    exact List.eq_nil_of_length_eq_zero this
  · have hmem := mem_left he
    have hb1 : w1.heap = w.heap := by rcases hw1 with rfl | rfl <;> rfl
    have h1r : w1.heap[r]? = some (.mapIter (some b) since seen c0) := by rw [hb1]; exact hr
    have hkey : e.key ∈ left.map (Value.int q) := by rw [← hleft']; exact List.mem_map.2 ⟨e, he, rfl⟩
    obtain ⟨k, hk, hke⟩ := List.mem_map.1 hkey
    have hpair : (e.key, e.val) ∈ m.map fun p => (Value.int q p.1, enc p.2) := by rw [← hm]; exact List.mem_map.2 ⟨e, hmem.1, rfl⟩
    obtain ⟨⟨k', v⟩, hp, hpe⟩ := List.mem_map.1 hpair
    simp only [Prod.mk.injEq] at hpe
    have hkk : k' = k := by have := hpe.1.trans hke.symm; injection this
    subst hkk
    have hblk : (setBlock w1 r (.mapIter (some b) since (seen.push e.born) clock)).heap[b]? = some (.map es clock) := by
      rw [show (setBlock w1 r (.mapIter (some b) since (seen.push e.born) clock)).heap[b]? = w1.heap[b]? from (MapKept.heap_set h1r).2 b hbr, hb1]; exact hb
    have hitr : (setBlock w1 r (.mapIter (some b) since (seen.push e.born) clock)).heap[r]? = some (.mapIter (some b) since (seen.push e.born) clock) := (MapKept.heap_set h1r).1
    refine .inr ⟨k', v, _, hk, hln, mget_of_mem hn hp, by rw [hrun, ← hpe.1, ← hpe.2], ⟨es, clock, since, seen.push e.born, clock, hblk, hs, hm, hitr, hold, hcl, hcl, ?_⟩, ?_, by simp [setBlock, hb1], ?_⟩
    · have e1 : (es.toList.filter fun x => !(seen.push e.born).contains x.born) = (es.toList.filter fun x => !seen.contains x.born).filter fun x => !(x.born == e.born) := by
        rw [List.filter_filter]
        refine List.filter_congr fun x _ => ?_
        rw [contains_push]
        cases seen.contains x.born <;> cases (x.born == e.born) <;> rfl
      rw [e1]
      have hsub : (es.toList.filter fun x => !seen.contains x.born).Sublist es.toList := List.filter_sublist
      refine erase_map ((hsub.map _).nodup hs.2.1) ((hsub.map _).nodup hs.2.2) ?_ hleft hpe.1.symm
      simp only [List.mem_filter]
      exact ⟨hmem.1, by simpa using hmem.2⟩
    · have h0 : w1.grownBy (setBlock w1 r (.mapIter (some b) since (seen.push e.born) clock)) (some r) := grown_setBlock h1r
      rcases hw1 with rfl | rfl
      · exact h0
      · exact ⟨h0.os, h0.tape, h0.output, h0.size, h0.block⟩
    · have := run_entry_at (P := P) _ r b since seen es clock e hitr hblk hmem.1 hs.2.1
      rw [this, ← hpe.1, ← hpe.2]
/-- A store at a key that is there, while the map is gone through. -/
theorem Iter.update {w : World} {b r : Nat} {q : IntKind} {enc : α → Value} {m : List (Int × α)} {left : List Int} (h : Iter w b r q enc m left) {t K E : TypeId} (ht : P.underlying t = some (.map K E)) (hK : P.underlying K = some (.int q)) {k : Int} (hk : k ∈ mkeys m) (v : α) :
    ∃ w', (Instr.mapUpdate t (.map (some b)) (.int q k) (enc v)).run P w = .ok () w' ∧ Iter w' b r q enc (mput m k v) left ∧ w.grownBy w' (some b) ∧ w'.heap.size = w.heap.size := by
  have hn := h.map.nodup
  have hbr := h.lt.2
  obtain ⟨es, clock, since, seen, c0, hb, hs, hm, hr, hold, hsc, hcl, hleft⟩ := h
  have hck := MapKept.run_checkKey (P := P) (w := w) (kt := K) (d := .int q) (k := .int q k) hK rfl false 9999
  rcases put_entries hs hm hn k v with ⟨h0, _⟩ | ⟨j, u, e, h0, h1, h2, h3, h4, h5, h6⟩
  · exact absurd hk (mget_none.1 h0)
  · have hkeys : (es.modify j fun e => { e with key := .int q k, val := enc v }).toList.map (·.key) = es.toList.map (·.key) := by
      rw [keys_of_map h5, keys_of_map hm, mkeys_mput, if_pos hk]
    refine ⟨setBlock w b (.map (es.modify j fun e => { e with key := .int q k, val := enc v }) clock), ?_,
      ⟨_, _, since, seen, c0, (MapKept.heap_set hb).1, h4, h5, ((MapKept.heap_set hb).2 r (Ne.symm hbr)).trans hr, ?_, hsc, hcl, ?_⟩, grown_setBlock hb, by simp [setBlock]⟩
    · simp [Instr.mapUpdate, run_underlying ht, MapKept.run_getObj_map hb, hck, MapKept.run_findKey hK h1, h2, h3, keyStays, MapKept.run_setObj_map _ hb, Result.andThen, setBlock]
    · intro x hx
      have : x.born ∈ es.toList.map (·.born) := by rw [← h6]; exact List.mem_map.2 ⟨x, hx, rfl⟩
      obtain ⟨y, hy, e1⟩ := List.mem_map.1 this
      rw [← e1]; exact hold y hy
    · rw [← hleft]
      -- the same entries are left: borns and keys stand where they stood
      have aux : ∀ (l l' : List MapEntry), l'.map (·.born) = l.map (·.born) → l'.map (·.key) = l.map (·.key) → (l'.filter fun e => !seen.contains e.born).map (·.key) = (l.filter fun e => !seen.contains e.born).map (·.key) := by
        intro l
        induction l with
        | nil => intro l' a _; cases l' with
          | nil => rfl
          | cons x l' => simp at a
        | cons y l ih =>
          intro l' a b
          cases l' with
          | nil => simp at a
          | cons x l' =>
            simp only [List.map_cons, List.cons.injEq] at a b
            simp only [List.filter_cons, a.1]
            split
            · simp only [List.map_cons, b.1, ih l' a.2 b.2]
            · exact ih l' a.2 b.2
      exact aux _ _ h6 hkeys

/-! For the walk. -/
variable {ops : Array Oper} {rest : List Oper} {o : Oper} {a : Act} {Q : Exit → Act → World → Prop}
theorem wpList_mlook {w : World} (hg : o.guard = none) (x k : Operand) (t K E : TypeId) (hop : o.op = Op.lookup t x k false) (ht : P.underlying t = some (.map K E)) {q : IntKind} (hK : P.underlying K = some (.int q))
    {z : Value} (hz : ∀ W, (zeroValue E).run P W = .ok z W) {enc : α → Value} {b : Nat} {m : List (Int × α)} (key : Int) (hm : MapOf w b q enc m) (hx : a.eval x = .map (some b)) (hk : a.eval k = .int q key)
    (h : wpList P ops Q rest (a.put o.dst (((mget m key).map enc).getD z)) w) : wpList P ops Q (o :: rest) a w := by
  refine wpList_plain hg fun K' hK' => ?_
  have hrun := hm.lookup ht hK (hz w) key
  unfold Oper.wp
  simp [execOp, hop, hx, hk, hrun, Result.andThen]
  exact hK' _ _ h
theorem wpList_mlookOk {w : World} (hg : o.guard = none) (x k : Operand) (t K E : TypeId) (hop : o.op = Op.lookup t x k true) (ht : P.underlying t = some (.map K E)) {q : IntKind} (hK : P.underlying K = some (.int q))
    {z : Value} (hz : ∀ W, (zeroValue E).run P W = .ok z W) {enc : α → Value} {b : Nat} {m : List (Int × α)} (key : Int) (hm : MapOf w b q enc m) (hx : a.eval x = .map (some b)) (hk : a.eval k = .int q key)
    (h : wpList P ops Q rest (a.put o.dst (.tuple #[((mget m key).map enc).getD z, .bool (mget m key).isSome])) w) : wpList P ops Q (o :: rest) a w := by
  refine wpList_plain hg fun K' hK' => ?_
  have hrun := hm.lookupOk ht hK (hz w) key
  unfold Oper.wp
  simp [execOp, hop, hx, hk, hrun, Result.andThen]
  exact hK' _ _ h
theorem wpList_mput {w : World} (hg : o.guard = none) (x k v : Operand) (t K E : TypeId) (hop : o.op = Op.mapUpdate t x k v) (ht : P.underlying t = some (.map K E)) {q : IntKind} (hK : P.underlying K = some (.int q))
    {enc : α → Value} {b : Nat} {m : List (Int × α)} (key : Int) (val : α) (hm : MapOf w b q enc m) (hx : a.eval x = .map (some b)) (hk : a.eval k = .int q key) (hv : a.eval v = enc val)
    (h : ∀ w', MapOf w' b q enc (mput m key val) → w.grownBy w' (some b) → w'.heap.size = w.heap.size → wpList P ops Q rest (a.put o.dst undef) w') : wpList P ops Q (o :: rest) a w := by
  refine wpList_plain hg fun K' hK' => ?_
  obtain ⟨w', hrun, h1, h2, h3⟩ := hm.update ht hK key val
  unfold Oper.wp
  simp [execOp, hop, hx, hk, hv, hrun, Result.andThen]
  exact hK' _ _ (h w' h1 h2 h3)
theorem wpList_mrange {w : World} (hg : o.guard = none) (x : Operand) (t K E : TypeId) (hop : o.op = Op.range t x) (ht : P.underlying t = some (.map K E)) {q : IntKind}
    {enc : α → Value} {b : Nat} {m : List (Int × α)} (hm : MapOf w b q enc m) (hx : a.eval x = .map (some b))
    (h : ∀ w', Iter w' b w.heap.size q enc m (mkeys m) → w.grownBy w' none → w'.heap.size = w.heap.size + 1 → wpList P ops Q rest (a.put o.dst (.pointer (some ⟨w.heap.size, 0, none⟩))) w') : wpList P ops Q (o :: rest) a w := by
  refine wpList_plain hg fun K' hK' => ?_
  obtain ⟨w', hrun, h1, h2, h3⟩ := hm.range (P := P) ht
  unfold Oper.wp
  simp [execOp, hop, hx, hrun, Result.andThen]
  exact hK' _ _ (h w' h1 h2 h3)
theorem wpList_mnext {w : World} (hg : o.guard = none) (it : Operand) (hop : o.op = Op.next it false) {q : IntKind} {enc : α → Value} {b r : Nat} {m : List (Int × α)} {left : List Int} (hi : Iter w b r q enc m left) (hit : a.eval it = .pointer (some ⟨r, 0, none⟩))
    (hDone : left = [] → wpList P ops Q rest (a.put o.dst (.tuple #[.bool false])) w)
    (hMore : ∀ k v w', k ∈ left → left.Nodup → mget m k = some v → Iter w' b r q enc m (left.erase k) → w.grownBy w' (some r) → w'.heap.size = w.heap.size →
      (Instr.entry (.pointer (some ⟨r, 0, none⟩))).run P w' = .ok (.tuple #[.int q k, enc v]) w' → wpList P ops Q rest (a.put o.dst (.tuple #[.bool true, .int q k, enc v])) w') : wpList P ops Q (o :: rest) a w := by
  refine wpList_plain hg fun K' hK' => ?_
  unfold Oper.wp
  rcases hi.next (P := P) o.type with ⟨h0, hrun⟩ | ⟨k, v, w', h1, h2, h3, hrun, h4, h5, h6, h7⟩
  · simp [execOp, hop, hit, hrun, Result.andThen]
    exact hK' _ _ (hDone h0)
  · simp [execOp, hop, hit, hrun, Result.andThen]
    exact hK' _ _ (hMore k v w' h1 h2 h3 h4 h5 h6 h7)
theorem wpList_mputIter {w : World} (hg : o.guard = none) (x k v : Operand) (t K E : TypeId) (hop : o.op = Op.mapUpdate t x k v) (ht : P.underlying t = some (.map K E)) {q : IntKind} (hK : P.underlying K = some (.int q))
    {enc : α → Value} {b r : Nat} {m : List (Int × α)} {left : List Int} (key : Int) (val : α) (hi : Iter w b r q enc m left) (hkey : key ∈ mkeys m) (hx : a.eval x = .map (some b)) (hk : a.eval k = .int q key) (hv : a.eval v = enc val)
    (h : ∀ w', Iter w' b r q enc (mput m key val) left → w.grownBy w' (some b) → w'.heap.size = w.heap.size → wpList P ops Q rest (a.put o.dst undef) w') : wpList P ops Q (o :: rest) a w := by
  refine wpList_plain hg fun K' hK' => ?_
  obtain ⟨w', hrun, h1, h2, h3⟩ := hi.update ht hK hkey val
  unfold Oper.wp
  simp [execOp, hop, hx, hk, hv, hrun, Result.andThen]
  exact hK' _ _ (h w' h1 h2 h3)
end

/-! A map over known keys, as a function. -/
section
variable {α : Type}
def mapF (vs : List Int) (f : Int → α) : List (Int × α) := vs.map fun v => (v, f v)
theorem mkeys_mapF (vs : List Int) (f : Int → α) : mkeys (mapF vs f) = vs := by simp [mkeys, mapF, Function.comp_def]
theorem mget_mapF (vs : List Int) (f : Int → α) (x : Int) : mget (mapF vs f) x = if x ∈ vs then some (f x) else none := by
  induction vs with
  | nil => simp [mapF, mget]
  | cons k vs ih =>
    unfold mget mapF at ih ⊢
    simp only [List.map_cons, List.find?_cons, List.mem_cons]
    by_cases e : k = x
    · subst e; simp
    · have h1 : (k == x) = false := by simp [e]
      simp only [h1]
      rw [ih]
      simp [Ne.symm e]
theorem mput_mapF {vs : List Int} (f : Int → α) {k : Int} (hk : k ∈ vs) (u : α) : mput (mapF vs f) k u = mapF vs fun x => if x = k then u else f x := by
  unfold mput
  rw [mget_mapF, if_pos hk]
  simp only [Option.isSome_some, if_true]
  unfold mapF
  rw [List.map_map]
  refine List.map_congr_left fun x _ => ?_
  show (if x == k then (k, u) else (x, f x)) = (x, if x = k then u else f x)
  by_cases e : x = k
  · subst e; simp
  · simp [e]
theorem mput_mapF_new {vs : List Int} (f : Int → α) {k : Int} (hk : k ∉ vs) : mput (mapF vs f) k (f k) = mapF (vs ++ [k]) f := by
  unfold mput
  rw [mget_mapF, if_neg hk]
  simp [mapF]
theorem mapF_congr {vs : List Int} {f g : Int → α} (h : ∀ x ∈ vs, f x = g x) : mapF vs f = mapF vs g := List.map_congr_left fun x hx => by rw [h x hx]
end

/-! Sets: maps to bool that hold true alone. -/
def hasB (vs : List Int) (x : Int) : Bool := decide (x ∈ vs)
def setM (ks : List Int) : List (Int × Bool) := ks.map fun k => (k, true)
def addK (ks : List Int) (k : Int) : List Int := if k ∈ ks then ks else ks ++ [k]
theorem mkeys_setM (ks : List Int) : mkeys (setM ks) = ks := by simp [mkeys, setM, Function.comp_def]
theorem mget_setM (ks : List Int) (x : Int) : mget (setM ks) x = if x ∈ ks then some true else none := by
  induction ks with
  | nil => simp [setM, mget]
  | cons k ks ih =>
    unfold mget setM at ih ⊢
    simp only [List.map_cons, List.find?_cons, List.mem_cons]
    by_cases e : k = x
    · subst e; simp
    · have h1 : (k == x) = false := by simp [e]
      simp only [h1]
      rw [ih]
      simp [Ne.symm e]
theorem mput_setM (ks : List Int) (k : Int) : mput (setM ks) k true = setM (addK ks k) := by
  unfold mput addK
  rw [mget_setM]
  by_cases h : k ∈ ks
  · rw [if_pos h, if_pos h]
    simp only [Option.isSome_some, if_true]
    unfold setM
    rw [List.map_map]
    refine List.map_congr_left fun x _ => ?_
    show (if x == k then (k, true) else (x, true)) = (x, true)
    split
    · rename_i e; simp at e; rw [e]
    · rfl
  · rw [if_neg h, if_neg h]
    simp [setM]
theorem mem_addK {ks : List Int} {k x : Int} : x ∈ addK ks k ↔ x ∈ ks ∨ x = k := by
  unfold addK; split
  · rename_i h
    constructor
    · exact .inl
    · rintro (h1 | rfl)
      · exact h1
      · exact h
  · simp
theorem len_addK (ks : List Int) (k : Int) : ks.length ≤ (addK ks k).length ∧ (addK ks k).length ≤ ks.length + 1 ∧ (k ∉ ks → (addK ks k).length = ks.length + 1) := by
  unfold addK; split
  · rename_i h; exact ⟨Nat.le_refl _, by omega, fun hn => absurd h hn⟩
  · simp
def IsSet (w : World) (b : Nat) (q : IntKind) (ks : List Int) : Prop := MapOf w b q Value.bool (setM ks)
theorem IsSet.nodup {w : World} {b : Nat} {q : IntKind} {ks : List Int} (h : IsSet w b q ks) : ks.Nodup := by have := MapOf.nodup h; rwa [mkeys_setM] at this
theorem setM_none : setM [] = [] := rfl
section
variable {P : Program} {ops : Array Oper} {rest : List Oper} {o : Oper} {a : Act} {Q : Exit → Act → World → Prop}
theorem wpList_slook {w : World} (hg : o.guard = none) (x k : Operand) (t K E : TypeId) (hop : o.op = Op.lookup t x k false) (ht : P.underlying t = some (.map K E)) {q : IntKind} (hK : P.underlying K = some (.int q))
    (hz : ∀ W, (zeroValue E).run P W = .ok (.bool false) W) {b : Nat} {ks : List Int} (key : Int) (hm : IsSet w b q ks) (hx : a.eval x = .map (some b)) (hk : a.eval k = .int q key)
    (h : wpList P ops Q rest (a.put o.dst (.bool (hasB ks key))) w) : wpList P ops Q (o :: rest) a w := by
  refine wpList_mlook hg x k t K E hop ht hK hz key hm hx hk ?_
  rw [mget_setM]
  unfold hasB at h
  by_cases hk : key ∈ ks
  · rw [if_pos hk]; simpa [hk] using h
  · rw [if_neg hk]; simpa [hk] using h
theorem wpList_sput {w : World} (hg : o.guard = none) (x k v : Operand) (t K E : TypeId) (hop : o.op = Op.mapUpdate t x k v) (ht : P.underlying t = some (.map K E)) {q : IntKind} (hK : P.underlying K = some (.int q))
    {b : Nat} {ks : List Int} (key : Int) (hm : IsSet w b q ks) (hx : a.eval x = .map (some b)) (hk : a.eval k = .int q key) (hv : a.eval v = .bool true)
    (h : ∀ w', IsSet w' b q (addK ks key) → w.grownBy w' (some b) → w'.heap.size = w.heap.size → wpList P ops Q rest (a.put o.dst undef) w') : wpList P ops Q (o :: rest) a w :=
  wpList_mput hg x k v t K E hop ht hK key true hm hx hk hv fun w' h1 h2 h3 => h w' (by unfold IsSet; rw [← mput_setM]; exact h1) h2 h3
theorem wpList_sins {w : World} (hg : o.guard = none) (x k v : Operand) (t K E : TypeId) (hop : o.op = Op.insert t x k v) (ht : P.underlying t = some (.map K E)) {q : IntKind} (hK : P.underlying K = some (.int q))
    {b : Nat} {ks : List Int} (key : Int) (hm : IsSet w b q ks) (hx : a.eval x = .map (some b)) (hk : a.eval k = .int q key) (hv : a.eval v = .bool true)
    (h : ∀ w', IsSet w' b q (addK ks key) → w.grownBy w' (some b) → w'.heap.size = w.heap.size → wpList P ops Q rest (a.put o.dst undef) w') : wpList P ops Q (o :: rest) a w := by
  refine wpList_plain hg fun K' hK' => ?_
  obtain ⟨w', hrun, h1, h2, h3⟩ := MapOf.update hm ht hK key true
  unfold Oper.wp
  simp [execOp, hop, hx, hk, hv, hrun, Result.andThen]
  exact hK' _ _ (h w' (by unfold IsSet; rw [← mput_setM]; exact h1) h2 h3)
end
end Go.Proofs.Ytnbaamjdlgojaaa
