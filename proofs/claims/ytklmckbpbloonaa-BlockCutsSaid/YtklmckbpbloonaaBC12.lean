/- Parts of the proof: RowT. -/
import Derived.Test.YtklmckbpbloonaaBC10
import Derived.Test.YtklmckbpbloonaaBC2
import Derived.Test.YtklmckbpbloonaaBC11
namespace Go.Proofs.Ytklmckbpbloonaa
open Go.RowKit

def edC (e : Edg) : List Value := [.int .u32 e.1, .int .u32 e.2.1, .int .u32 e.2.2]
def edV (e : Edg) : Value := .agg (edC e).toArray
def okE (e : Edg) : Prop := (0 ≤ e.1 ∧ e.1 < 4294967296) ∧ (0 ≤ e.2.1 ∧ e.2.1 < 4294967296) ∧ (0 ≤ e.2.2 ∧ e.2.2 < 4294967296)
theorem Ed_set : ∀ {es : List Edg} {i : Nat} {e : Edg}, i < es.length → Ed (es.set i e) = (Ed es).take (i * 3) ++ edC e ++ (Ed es).drop (i * 3 + 3)
  | [], i, e, h => by simp at h
  | x :: es, 0, e, _ => by simp [Ed, edC]
  | x :: es, i + 1, e, h => by
    have ih := Ed_set (es := es) (i := i) (e := e) (by simpa using h)
    have e1 : (i + 1) * 3 = i * 3 + 3 := by omega
    simp only [List.set_cons_succ, Ed, List.flatMap_cons] at ih ⊢
    rw [ih, e1]
    simp [List.take_append, List.drop_append]
/-- Block g holds the row es at its head; its capacity is c. -/
def RowE (w : World) (g c : Nat) (es : List Edg) : Prop := ∃ tail : List Value, Blk w g 39 (Ed es ++ tail).toArray ∧ tail.length = (c - es.length) * 3 ∧ es.length ≤ c ∧ c ≤ 9223372036854775807 ∧ edgs es
section
variable {w w' : World} {g c k : Nat} {es : List Edg} {e : Edg} {S : List Nat}
theorem RowE.cap (h : RowE w g c es) : es.length ≤ c ∧ c ≤ 9223372036854775807 := ⟨h.choose_spec.2.2.1, h.choose_spec.2.2.2.1⟩
theorem RowE.ok (h : RowE w g c es) : edgs es := h.choose_spec.2.2.2.2
theorem RowE.lt (h : RowE w g c es) : g < w.heap.size := h.choose_spec.1.lt
theorem RowE.okAt (h : RowE w g c es) (hk : es[k]? = some e) : okE e := h.ok e (List.mem_of_getElem? hk)
theorem RowE.cells (h : RowE w g c es) (hk : es[k]? = some e) : w.cell? ⟨g, k * 3, none⟩ = some (.int .u32 e.1) ∧ w.cell? ⟨g, k * 3 + 1, none⟩ = some (.int .u32 e.2.1) ∧ w.cell? ⟨g, k * 3 + 2, none⟩ = some (.int .u32 e.2.2) := by
  obtain ⟨tail, hb, _⟩ := h
  obtain ⟨h1, h2, h3⟩ := Ed_at hk
  have hl := (List.getElem?_eq_some_iff.1 hk).1
  have hlen := Ed_len es
  refine ⟨?_, ?_, ?_⟩
  · rw [hb.cell, List.getElem?_toArray, List.getElem?_append_left (by omega), h1]
  · rw [hb.cell, List.getElem?_toArray, List.getElem?_append_left (by omega), h2]
  · rw [hb.cell, List.getElem?_toArray, List.getElem?_append_left (by omega), h3]
theorem RowE.there (h : RowE w g c es) (hk : k < es.length) : w.there g (k * 3) 3 := fun j hj => by
  obtain ⟨tail, hb, _⟩ := h
  have hlen := Ed_len es
  refine ⟨?_, hb.frozen _⟩
  rw [hb.cell, List.getElem?_toArray, List.getElem?_append_left (by omega), List.getElem?_eq_getElem (by omega)]; rfl
theorem RowE.put (h : RowE w g c es) (hk : k < es.length) (he : okE e) : RowE (w.setCells g (k * 3) (edC e)) g c (es.set k e) := by
  obtain ⟨tail, hb, h1, h2, h3, h4⟩ := h
  have hlen := Ed_len es
  refine ⟨tail, ?_, by rw [List.length_set]; exact h1, by rw [List.length_set]; exact h2, h3, fun x hx => ?_⟩
  · have := hb.setCells (vs := edC e) (o := k * 3)
    have e1 : spl (Ed es ++ tail).toArray (k * 3) (edC e) = (Ed (es.set k e) ++ tail).toArray := by
      apply Array.toList_inj.1
      rw [spl_list (by simp [edC]; omega), Ed_set hk]
      simp only [edC, List.length_cons, List.length_nil]
      rw [List.take_append_of_le_length (by omega), List.drop_append_of_le_length (by omega)]
      simp
    rwa [e1] at this
  · rcases List.mem_or_eq_of_mem_set hx with hx | rfl
    · exact h4 x hx
    · exact he
theorem RowE.keep (h : RowE w g c es) (hb : w'.heap[g]? = w.heap[g]?) : RowE w' g c es := by
  obtain ⟨tail, h0, h1⟩ := h
  exact ⟨tail, hb.trans h0, h1⟩
theorem RowE.chg (h : RowE w g c es) (hc : Chg S w w') (hg : g ∉ S) : RowE w' g c es := h.keep (hc.block g h.lt hg)
theorem RowE.on (h : RowE w g c es) (hb : Below w.heap.size w w') : RowE w' g c es := h.keep (hb.block g h.lt)
theorem infoEd : (Try.prog.info? 39).map (·.size) = some 3 := by kernel_rfl
theorem size_setC' (g : Nat) : ∀ (vs : List Value) (o : Nat) (w : World), (w.setCells g o vs).heap.size = w.heap.size
  | [], _, _ => rfl
  | v :: r, o, w => (size_setC' g r _ _).trans (by simp)
end
theorem exec_loadE {W : World} {o : Oper} {a : Act} {x : Operand} {g c k : Nat} {es : List Edg} {e : Edg} (ho : o.op = .load 39 x) (hx : a.eval x = .pointer (some ⟨g, k * 3, none⟩)) (h : RowE W g c es) (hk : es[k]? = some e) : (execOp a.eval o).run Try.prog W = .ok (.value (edV e)) W := by
  obtain ⟨h1, h2, h3⟩ := h.cells hk
  unfold execOp
  simp only [ho, hx]
  unfold edV edC
  go_simp
section
variable {ops : Array Oper} {Q : Exit → Act → World → Prop} {md : Region.Mode} {S : World → Prop} {fuel : Nat} {listed : Array Bool} {a : Act} {w : World}
/-- An edge is stored into the row, by an operation that alone may come up next. -/
theorem held_storeE (i : Nat) {oi : Oper} (hi : ops[i]? = some oi) (hd : oi.dst = none) (hw : Region.wanted oi (yielded ops a.tmps) = true)
    (hr : Region.ready md ops listed = [i]) (x y : Operand) (ho : oi.op = .store 39 x y) (g c k : Nat) (es : List Edg) (e : Edg) (hx : a.eval x = .pointer (some ⟨g, k * 3, none⟩)) (hy : a.eval y = edV e)
    (hrow : RowE w g c es) (hk : k < es.length) (he : okE e)
    (h : ∀ w', RowE w' g c (es.set k e) → Chg [g] w w' → w'.heap.size = w.heap.size → S w' ∧ wpAnyH Try.prog md ops Q S fuel (listed.setIfInBounds i true) a w') : wpAnyH Try.prog md ops Q S (fuel + 1) listed a w := by
  refine wpAnyH_ready (rs := [i]) hr (by simp) (AllReadyH.cons hi (fun K hK => ?_) AllReadyH.nil)
  rw [if_pos hw]
  refine wp_store_mid 39 x y ho g (k * 3) (edC e).toArray hx hy (by simpa [edC] using hrow.there hk) (by simpa [edC] using infoEd) (all_oneCell_toArray fun v hv => by simp only [edC, List.mem_cons, List.not_mem_nil, or_false] at hv; rcases hv with rfl | rfl | rfl <;> rfl) ?_
  rw [hd]
  obtain ⟨h1, h2⟩ := h _ (hrow.put hk he) ((Chg.refl [g] w).setCells (by simp)) (size_setC' _ _ _ _)
  exact hK.out _ _ h1 (fun _ => h2)
end
end Go.Proofs.Ytklmckbpbloonaa
