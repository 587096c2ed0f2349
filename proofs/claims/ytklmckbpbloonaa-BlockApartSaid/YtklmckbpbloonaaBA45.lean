/- Parts of the proof: BkN. -/
import Derived.Test.YtklmckbpbloonaaBA44
import Derived.Test.YtklmckbpbloonaaBA40
import Derived.Test.YtklmckbpbloonaaBA6
namespace Go.Proofs.Ytklmckbpbloonaa
open Go.RowKit

def onTo (b : List Edg) (q : Nat) (z : Int) : Prop := ∃ x ∈ b.take q, atV x z
theorem onTo_zero (b : List Edg) (z : Int) : ¬ onTo b 0 z := fun ⟨x, hx, _⟩ => by simp at hx
theorem onTo_succ {b : List Edg} {q : Nat} {x : Edg} (h : b[q]? = some x) (z : Int) : onTo b (q + 1) z ↔ onTo b q z ∨ z = x.2.1 ∨ z = x.2.2 := by
  unfold onTo
  rw [takeE_at h]
  constructor
  · rintro ⟨y, hy, hz⟩
    rcases List.mem_append.1 hy with hy | hy
    · exact .inl ⟨y, hy, hz⟩
    · rw [List.mem_singleton.1 hy] at hz
      rcases hz with hz | hz
      · exact .inr (.inl hz.symm)
      · exact .inr (.inr hz.symm)
  · rintro (⟨y, hy, hz⟩ | hz | hz)
    · exact ⟨y, List.mem_append_left _ hy, hz⟩
    · exact ⟨x, by simp, .inl hz.symm⟩
    · exact ⟨x, by simp, .inr hz.symm⟩
theorem onTo_all {vs : List Int} {es : List Edg} {r : Int} {n : Nat} (h : (blockL vs es r).length = n) (z : Int) : onTo (blockL vs es r) n z ↔ onB vs es r z := by
  subst h; unfold onTo onB; rw [List.take_length]
theorem mem_add2 {ks : List Int} {x : Edg} {z : Int} : z ∈ addK (addK ks x.2.1) x.2.2 ↔ z ∈ ks ∨ z = x.2.1 ∨ z = x.2.2 := by
  rw [mem_addK, mem_addK]
  constructor
  · rintro ((h | h) | h)
    · exact .inl h
    · exact .inr (.inl h)
    · exact .inr (.inr h)
  · rintro (h | h | h)
    · exact .inl (.inl h)
    · exact .inl (.inr h)
    · exact .inr h
/-- A row without doubles, whose things are all one, has at most one. -/
theorem len_one {l : List Int} (hn : l.Nodup) (h : ∀ a ∈ l, ∀ b ∈ l, a = b) : l.length ≤ 1 := by
  match l, hn, h with
  | [], _, _ => simp
  | [_], _, _ => simp
  | a :: b :: _, hn, h =>
    have := h a (by simp) b (by simp)
    rw [this] at hn
    simp at hn
def lensTo (ess : List (List Edg)) (k : Nat) : Nat := ((ess.take k).map List.length).sum
theorem lensTo_succ {ess : List (List Edg)} {k : Nat} {b : List Edg} (h : ess[k]? = some b) : lensTo ess (k + 1) = lensTo ess k + b.length := by
  unfold lensTo; rw [List.take_add_one, h]; simp
theorem sum_classes (f : Edg → Int) (es : List Edg) : ∀ roots : List Int, roots.Nodup → (roots.map fun r => (es.filter fun x => f x == r).length).sum = (es.filter fun x => decide (f x ∈ roots)).length
  | [], _ => by
    have : (es.filter fun x => decide (f x ∈ ([] : List Int))) = [] := List.filter_eq_nil_iff.2 (by simp)
    rw [this]; rfl
  | r :: rs, h => by
    obtain ⟨h1, h2⟩ := List.nodup_cons.1 h
    rw [List.map_cons, List.sum_cons, sum_classes f es rs h2]
    clear h h2
    induction es with
    | nil => simp
    | cons x es ih =>
      by_cases e : f x = r
      · have hn : ¬ f x ∈ rs := by rw [e]; exact h1
        simp only [List.filter_cons, e, List.mem_cons, h1, or_false] at ih ⊢
        simp at ih ⊢
        omega
      · by_cases hm : f x ∈ rs
        · simp only [List.filter_cons, List.mem_cons, hm, or_true] at ih ⊢
          simp [e] at ih ⊢
          omega
        · simp only [List.filter_cons, List.mem_cons, hm, or_false] at ih ⊢
          simp [e] at ih ⊢
          omega
/-- Each edge is in one block. -/
theorem blocks_sum {vs : List Int} {es : List Edg} (hf : Fit vs es) : lensTo (blocksL vs es) (blocksL vs es).length = es.length := by
  unfold lensTo
  rw [List.take_length]
  unfold blocksL
  rw [List.map_map]
  have hnd : (rootsL vs es).Nodup := (show (ids es).Nodup from fit_keys hf).sublist List.filter_sublist
  have := sum_classes (fun x => clsL vs es x.1) es (rootsL vs es) hnd
  have h2 : (es.filter fun x => decide (clsL vs es x.1 ∈ rootsL vs es)) = es := List.filter_eq_self.2 fun x hx => by
    simp only [decide_eq_true_eq]
    exact cls_root (List.mem_map.2 ⟨x, hx, rfl⟩)
  rw [h2] at this
  exact this
theorem blocks_at {vs : List Int} {es : List Edg} {k : Nat} {b : List Edg} (h : (blocksL vs es)[k]? = some b) : ∃ r, (rootsL vs es)[k]? = some r ∧ b = blockL vs es r := by
  unfold blocksL at h
  rw [List.getElem?_map] at h
  obtain ⟨r, h1, h2⟩ := Option.map_eq_some_iff.1 h
  exact ⟨r, h1, h2.symm⟩
/-- What is left of a block without a vertex is one part. -/
theorem parts_one {vs : List Int} {es : List Edg} (hf : Fit vs es) {r v : Int} (hv : onB vs es r v) {V : List Int} {E : List Edg} (hV : V.Pairwise (· < ·)) (hVm : ∀ z, z ∈ V ↔ onB vs es r z ∧ z ≠ v) (hE : E.Perm (lessE (blockL vs es r) v)) :
    (∀ e ∈ E, e.2.1 ∈ V ∧ e.2.2 ∈ V) ∧ (partsTo V E V.length).length = 1 := by
  have hends : ∀ e ∈ E, e.2.1 ∈ V ∧ e.2.2 ∈ V := fun e he => by
    obtain ⟨h1, h2⟩ := lessE_at.1 (hE.mem_iff.1 he)
    unfold atV at h2
    simp only [not_or] at h2
    exact ⟨(hVm _).2 ⟨⟨e, h1, .inl rfl⟩, h2.1⟩, (hVm _).2 ⟨⟨e, h1, .inr rfl⟩, h2.2⟩⟩
  refine ⟨hends, ?_⟩
  rw [partsTo_all]
  unfold partsL
  rw [List.length_map]
  have hconn : ∀ a ∈ V, ∀ b ∈ V, lab E a = lab E b := fun a ha b hb => by
    obtain ⟨a1, a2⟩ := (hVm a).1 ha
    obtain ⟨b1, b2⟩ := (hVm b).1 hb
    exact lab_iff.2 ((block_less hf a1 b1 a2 b2).mono fun e he => hE.mem_iff.2 he)
  have hle : (V.filter fun z => lab E z == z).length ≤ 1 := by
    refine len_one (List.Pairwise.imp (fun h => by omega) (hV.sublist List.filter_sublist)) fun a ha b hb => ?_
    obtain ⟨a1, a2⟩ := List.mem_filter.1 ha
    obtain ⟨b1, b2⟩ := List.mem_filter.1 hb
    have a3 : lab E a = a := by simpa using a2
    have b3 : lab E b = b := by simpa using b2
    rw [← a3, ← b3]; exact hconn a a1 b b1
  obtain ⟨x, hx, hxv⟩ := hv
  obtain ⟨hx1, _⟩ := mem_block.1 hx
  have hz : otherV x v ∈ V := by
    refine (hVm _).2 ⟨⟨x, hx, ?_⟩, (other_mem hf hx1 hxv).2.2⟩
    rcases other_at hxv with ⟨_, k⟩ | ⟨_, k⟩ <;> rw [k]
    · exact .inr rfl
    · exact .inl rfl
  have hm : lab E (otherV x v) ∈ V.filter fun z => lab E z == z := List.mem_filter.2 ⟨lab_mem hends hz, by simp [lab_lab]⟩
  have := List.length_pos_of_mem hm
  omega

/-- A row of the call's own of maps. -/
def mapV (g : Nat) : Value := .map (some g)
def OwnM (w : World) (r : Option Nat) (A : Option Addr) (n c : Nat) (gs : List Nat) : Prop := Own w 60 1 r A n c (gs.map mapV) ∧ (A = none → r = none)
theorem infoM : (Try.prog.info? 60).map (fun i => (i.zero, i.size, i.bytes)) = some (some (.map none), 1, 8) := by kernel_rfl
section
variable {w w' : World} {r : Option Nat} {A : Option Addr} {n c : Nat} {gs : List Nat}
theorem OwnM.nil_ (w : World) (A : Option Addr) : OwnM w none A 0 0 [] := ⟨Own.nil_ w _ 1 A, fun _ => rfl⟩
theorem OwnM.len (h : OwnM w r A n c gs) : gs.length = n := by have := h.1.2.2.1; simpa using this
theorem OwnM.lt (h : OwnM w r A n c gs) : ∀ g, r = some g → g < w.heap.size := h.1.lt
theorem OwnM.on (h : OwnM w r A n c gs) (hb : Below w.heap.size w w') : OwnM w' r A n c gs := ⟨h.1.below hb h.lt, h.2⟩
theorem OwnM.at_ {j : Nat} (h : OwnM w r A n c gs) (hj : j < n) : ∃ ad g, A = some ad ∧ ad.block < w.heap.size ∧ gs[j]? = some g ∧ w.cell? (ad.add j) = some (.map (some g)) := by
  have hl := h.len
  obtain ⟨ad, e, hb, hc⟩ := h.1.reads.2 (by omega)
  have hg : gs[j]? = some (gs[j]'(by omega)) := List.getElem?_eq_getElem (by omega)
  exact ⟨ad, _, e, hb, hg, hc j _ (by rw [List.getElem?_map, hg]; rfl)⟩
end
/-- 'append(all, verts)' at []map[uint32]bool. -/
theorem appM1 {ops : Array Oper} {rest : List Oper} {o : Oper} {a : Act} {Q : Exit → Act → World → Prop} (hgd : o.guard = none) (s x : Operand)
    (ho : o.op = .call { callee := .builtin .append, args := #[s, x], argTypes := #[59, 59] }) (w : World)
    (r : Option Nat) (A : Option Addr) (n c : Nat) (gs : List Nat) (hs0 : a.eval s = .slice A n c) (hown : OwnM w r A n c gs)
    (g : Nat) (y : Nat) (hx : a.eval x = .slice (some ⟨g, 0, none⟩) 1 1) (hblk : Blk w g 60 #[mapV y]) (hb : n ≤ 8796093022)
    (h : ∀ r' A'' c'' w', OwnM w' r' A'' (n + 1) c'' (gs ++ [y]) → w.grownBy w' r → (r' = r ∨ ∀ g, r' = some g → w.heap.size ≤ g) → wpList Try.prog ops Q rest (a.put o.dst (.slice A'' (n + 1) c'')) w') : wpList Try.prog ops Q (o :: rest) a w := by
  obtain ⟨i0, hi, hz0, hz1, hz2⟩ := info_partsH infoM
  refine wpList_append_x w hgd s x _ ho 60 i0 _ 1 8 Try.underlying59 hi hz0 hz1 hz2 rfl (by decide) r A n c (gs.map mapV) hs0 hown.1 hown.2 w.heap.size _ 1 1 [mapV y] hx (Reads.oneBlk hblk) (by intro u hu; simp at hu; rw [hu]; rfl) (by unfold maxLen; omega) (by omega) ?_
  intro r' A'' c'' w' h2 h3 h4
  have e : gs.map mapV ++ [mapV y] = (gs ++ [y]).map mapV := by simp
  rw [e] at h2
  exact h r' A'' c'' w' ⟨h2, none_of_ownH h2⟩ h3 h4
/-- The vertices of the first blocks, in maps. -/
def SetsAt (w : World) (vs : List Int) (es : List Edg) (gs : List Nat) : Prop := ∀ (j g : Nat) (r : Int), gs[j]? = some g → (rootsL vs es)[j]? = some r → ∃ ks, IsSet w g .u32 ks ∧ ∀ z, z ∈ ks ↔ onB vs es r z
theorem SetsAt.on {w w' : World} {vs : List Int} {es : List Edg} {gs : List Nat} (h : SetsAt w vs es gs) (hb : Below w.heap.size w w') : SetsAt w' vs es gs := fun j g r h1 h2 => by
  obtain ⟨ks, k1, k2⟩ := h j g r h1 h2
  exact ⟨ks, MapOf.below k1 hb (MapOf.lt k1), k2⟩
theorem SetsAt.kept {w w' : World} {vs : List Int} {es : List Edg} {gs : List Nat} (h : SetsAt w vs es gs) {e : TypeId} {size n c : Nat} {r : Option Nat} {A : Option Addr} {xs : List Value} (ho : Own w e size r A n c xs) (hg : w.grownBy w' r) : SetsAt w' vs es gs := fun j g r' h1 h2 => by
  obtain ⟨ks, k1, k2⟩ := h j g r' h1 h2
  exact ⟨ks, MapOf.grown k1 hg (own_map_ne ho k1), k2⟩
end Go.Proofs.Ytklmckbpbloonaa
