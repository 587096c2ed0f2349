/- Parts of the proof: BkG. -/
import Derived.Test.YtklmckbpbloonaaBC11
import Derived.Test.YtklmckbpbloonaaBC23
import Derived.Test.YtklmckbpbloonaaBC24
import Derived.Test.YtklmckbpbloonaaBC30
namespace Go.Proofs.Ytklmckbpbloonaa
open Go.RowKit

abbrev Hdr : Type := Option Addr × Nat × Nat
/-- Map b holds, for each key, the head of a row of the call's own: of 'rows'. No two of them are one. -/
def RowsAt (w : World) (base : Nat) (m : List (Int × Hdr)) (rows : Int → List Edg) : Prop :=
  ∃ rs : Int → Option Nat, (∀ k h, mget m k = some h → OwnE w (rs k) h.1 h.2.1 h.2.2 (rows k) ∧ ∀ b, rs k = some b → base ≤ b) ∧ (∀ k, mget m k = none → rows k = []) ∧
    (∀ k k' b, k ∈ mkeys m → k' ∈ mkeys m → rs k = some b → rs k' = some b → k = k')
section
variable {w w' : World} {base : Nat} {m : List (Int × Hdr)} {rows : Int → List Edg}
theorem RowsAt.nil_ (w : World) (base : Nat) (rows : Int → List Edg) (h : ∀ k, rows k = []) : RowsAt w base [] rows :=
  ⟨fun _ => none, fun k h e => by simp [mget] at e, fun k _ => h k, fun k k' b hk => by simp [mkeys] at hk⟩
theorem RowsAt.on (h : RowsAt w base m rows) (hb : Below w.heap.size w w') : RowsAt w' base m rows := by
  obtain ⟨rs, h1, h2, h3⟩ := h
  exact ⟨rs, fun k hd e => ⟨(h1 k hd e).1.below hb (h1 k hd e).1.lt, (h1 k hd e).2⟩, h2, h3⟩
theorem RowsAt.drewN (h : RowsAt w base m rows) (q : Nat) : RowsAt (w.drewN q) base m rows := h
/-- A turn of a block that is no row of edges. -/
theorem RowsAt.kept (h : RowsAt w base m rows) {row : Option Nat} (hg : w.grownBy w' row) (hne : ∀ g cur, row = some g → w.heap[g]? ≠ some (.cells cur 39 (0, 0))) : RowsAt w' base m rows := by
  obtain ⟨rs, h1, h2, h3⟩ := h
  refine ⟨rs, fun k hd e => ⟨(h1 k hd e).1.kept hg ?_, (h1 k hd e).2⟩, h2, h3⟩
  have ho := (h1 k hd e).1
  cases hr : rs k with
  | none => exact .inl rfl
  | some g =>
    right; intro e2
    rw [hr] at ho
    obtain ⟨cur, hh⟩ := ho.1.1.block rfl
    exact hne g cur e2.symm hh
theorem RowsAt.turned {α : Type} {q : IntKind} {enc : α → Value} {m' : List (Int × α)} {b : Nat} (h : RowsAt w base m rows) (hm : MapOf w b q enc m') (hg : w.grownBy w' (some b)) : RowsAt w' base m rows :=
  h.kept hg fun g cur e hh => by injection e with e; subst e; exact absurd rfl (hm.ne_cells hh)
/-- One row's head, its owner. -/
theorem RowsAt.at_ (h : RowsAt w base m rows) (k : Int) : ∃ r0, OwnE w r0 ((mget m k).getD (none, 0, 0)).1 ((mget m k).getD (none, 0, 0)).2.1 ((mget m k).getD (none, 0, 0)).2.2 (rows k) ∧ (∀ b, r0 = some b → base ≤ b) ∧
    ∀ (w1 w2 : World) (r' : Option Nat) (h' : Hdr) (es' : List Edg), Below w.heap.size w w1 → w1.grownBy w2 r0 → (r' = r0 ∨ ∀ b, r' = some b → w1.heap.size ≤ b) → OwnE w2 r' h'.1 h'.2.1 h'.2.2 es' → base ≤ w.heap.size →
      RowsAt w2 base (mput m k h') (fun j => if j = k then es' else rows j) := by
  obtain ⟨rs, h1, h2, h3⟩ := h
  have key : ∀ r0 : Option Nat, (∀ b, r0 = some b → base ≤ b) → (∀ j b, j ∈ mkeys m → j ≠ k → r0 = some b → rs j ≠ some b) → (∀ b, r0 = some b → b < w.heap.size) →
      ∀ (w1 w2 : World) (r' : Option Nat) (h' : Hdr) (es' : List Edg), Below w.heap.size w w1 → w1.grownBy w2 r0 → (r' = r0 ∨ ∀ b, r' = some b → w1.heap.size ≤ b) → OwnE w2 r' h'.1 h'.2.1 h'.2.2 es' → base ≤ w.heap.size →
      RowsAt w2 base (mput m k h') (fun j => if j = k then es' else rows j) := by
    intro r0 hb0 hne hlt w1 w2 r' h' es' hB hG hr' ho hbs
    have hrb : ∀ b, r' = some b → base ≤ b := fun b e => by
      rcases hr' with q | q
      · exact hb0 b (by rw [← q, e])
      · have := q b e; have := hB.size; omega
    have hroth : ∀ j b, j ∈ mkeys m → j ≠ k → r' = some b → rs j ≠ some b := fun j b hj hjk e hs => by
      rcases hr' with q | q
      · exact hne j b hj hjk (by rw [← q, e]) hs
      · cases hjm : mget m j with
        | none => exact absurd hj (mget_none.1 hjm)
        | some hd =>
          have ho := (h1 j hd hjm).1
          rw [hs] at ho
          have h5 := ho.lt b rfl
          have h6 := q b e
          have := hB.size
          omega
    refine ⟨fun j => if j = k then r' else rs j, fun j hd e => ?_, fun j e => ?_, fun j j' b hj hj' e e' => ?_⟩
    · rw [mget_mput] at e
      by_cases hjk : j = k
      · subst hjk
        rw [if_pos rfl] at e
        injection e with e
        subst e
        simp only [if_true]
        exact ⟨ho, hrb⟩
      · rw [if_neg hjk] at e
        simp only [if_neg hjk]
        refine ⟨((h1 j hd e).1.below hB (h1 j hd e).1.lt).kept hG ?_, (h1 j hd e).2⟩
        cases hr : rs j with
        | none => exact .inl rfl
        | some b =>
          right; intro e2
          exact hne j b (by rw [← mget_some, e]; rfl) hjk e2.symm hr
    · rw [mget_mput] at e
      by_cases hjk : j = k
      · rw [if_pos hjk] at e; cases e
      · rw [if_neg hjk] at e
        simp only [if_neg hjk]
        exact h2 j e
    · have hmem : ∀ j, j ∈ mkeys (mput m k h') → j = k ∨ j ∈ mkeys m := fun j hj => by
        rw [mkeys_mput] at hj
        split at hj
        · exact .inr hj
        · rcases List.mem_append.1 hj with q | q
          · exact .inr q
          · exact .inl (by simpa using q)
      by_cases hjk : j = k <;> by_cases hjk' : j' = k
      · rw [hjk, hjk']
      · exfalso
        simp only [hjk, if_true] at e
        simp only [if_neg hjk'] at e'
        rcases hmem j' hj' with q | q
        · exact hjk' q
        · exact hroth j' b q hjk' e e'
      · exfalso
        simp only [hjk', if_true] at e'
        simp only [if_neg hjk] at e
        rcases hmem j hj with q | q
        · exact hjk q
        · exact hroth j b q hjk e' e
      · simp only [if_neg hjk] at e
        simp only [if_neg hjk'] at e'
        rcases hmem j hj with q | q
        · exact absurd q hjk
        · rcases hmem j' hj' with q' | q'
          · exact absurd q' hjk'
          · exact h3 j j' b q q' e e'
  cases hk : mget m k with
  | none =>
    refine ⟨none, ?_, (fun b e => by cases e), key none (fun b e => by cases e) (fun j b _ _ e => by cases e) (fun b e => by cases e)⟩
    rw [h2 k hk]
    exact OwnE.nil_ _ _
  | some hd =>
    have hkm : k ∈ mkeys m := by rw [← mget_some, hk]; rfl
    refine ⟨rs k, (h1 k hd hk).1, (h1 k hd hk).2, key (rs k) (h1 k hd hk).2 (fun j b hj hjk e hs => hjk (h3 j k b hj hkm hs e)) (h1 k hd hk).1.lt⟩
end
theorem stepE1 {ops : Array Oper} {o : Oper} {a : Act} {K : Act → World → Prop} {Q : Exit → Act → World → Prop} {E : Prop} (hgd : o.guard = none) (s x : Operand)
    (ho : o.op = .call { callee := .builtin .append, args := #[s, x], argTypes := #[23, 23] }) (w : World)
    (r : Option Nat) (A : Option Addr) (n c : Nat) (xs : List Edg) (hs : a.eval s = .slice A n c) (hown : OwnE w r A n c xs)
    (g : Nat) (y : Edg) (hx : a.eval x = .slice (some ⟨g, 0, none⟩) 1 1) (hblk : Blk w g 39 #[.int .u32 y.1, .int .u32 y.2.1, .int .u32 y.2.2]) (hy : (0 ≤ y.1 ∧ y.1 < 4294967296) ∧ (0 ≤ y.2.1 ∧ y.2.1 < 4294967296) ∧ (0 ≤ y.2.2 ∧ y.2.2 < 4294967296)) (hb : n ≤ 2199023255552)
    (h : ∀ r' A'' c'' w', OwnE w' r' A'' (n + 1) c'' (xs ++ [y]) → w.grownBy w' r → (r' = r ∨ ∀ g, r' = some g → w.heap.size ≤ g) → K (a.put o.dst (.slice A'' (n + 1) c'')) w') :
    if Region.wanted o (yielded ops a.tmps) = true then Oper.wp Try.prog o a w K Q else E := by
  obtain ⟨i0, hi, hz0, hz1, hz2⟩ := info_parts infoE
  have hr := RdE.one hblk hy
  refine step_append_x w hgd s x _ ho 39 i0 _ 3 12 Try.underlying23 hi hz0 hz1 hz2 rfl (by decide) r A n c (Ed xs) hs hown.1.1 hown.1.2 w.heap.size (some ⟨g, 0, none⟩) 1 1 (Ed [y]) hx hr.1 (one_Ed [y]) (by unfold maxLen; omega) (by omega) ?_
  intro r' A'' c'' w' h2 h3 h4
  rw [← Ed_append] at h2
  exact h r' A'' c'' w' ⟨⟨h2, none_of_own h2⟩, fun x hx => by
    rcases List.mem_append.1 hx with hx | hx
    · exact hown.2 x hx
    · exact hr.2.2.2.2 x hx⟩ h3 h4
section
variable {P : Program} {ops : Array Oper} {Q : Exit → Act → World → Prop} {md : Region.Mode} {S : World → Prop} {fuel : Nat} {listed : Array Bool} {a : Act} {w w' : World}
/-- An operation that alone may come up next, and turns the world. -/
theorem held_step (i : Nat) (v : Value) {oi : Oper} (hi : ops[i]? = some oi) (hw : Region.wanted oi (yielded ops a.tmps) = true)
    (hr : Region.ready md ops listed = [i]) (hy : (execOp a.eval oi).run P w = .ok (.value v) w') (hS : S w')
    (h : wpAnyH P md ops Q S fuel (listed.setIfInBounds i true) (a.put oi.dst v) w') : wpAnyH P md ops Q S (fuel + 1) listed a w := by
  refine wpAnyH_ready (rs := [i]) hr (by simp) (AllReadyH.cons hi (fun K hK => ?_) AllReadyH.nil)
  rw [if_pos hw]
  unfold Oper.wp
  rw [hy]
  exact hK.out _ _ hS (fun _ => h)
/-- An operation that alone may come up next, turns the world, and yields nothing. -/
theorem held_turn (i : Nat) {oi : Oper} (hi : ops[i]? = some oi) (hw : Region.wanted oi (yielded ops a.tmps) = true)
    (hr : Region.ready md ops listed = [i]) (hy : (execOp a.eval oi).run P w = .ok .skip w') (hS : S w')
    (h : wpAnyH P md ops Q S fuel (listed.setIfInBounds i true) (a.put oi.dst undef) w') : wpAnyH P md ops Q S (fuel + 1) listed a w := by
  refine wpAnyH_ready (rs := [i]) hr (by simp) (AllReadyH.cons hi (fun K hK => ?_) AllReadyH.nil)
  rw [if_pos hw]
  unfold Oper.wp
  rw [hy]
  exact hK.out _ _ hS (fun _ => h)
/-- Two operations that may come up next, and no other: one reads in this world, ahead of the other one and behind it; the other turns the world. -/
theorem held_fork (i j di dj : Nat) (vi vj : Value) {oi oj : Oper} (hi : ops[i]? = some oi) (hj : ops[j]? = some oj) (hdi : oi.dst = some di) (hdj : oj.dst = some dj)
    (hne : i ≠ j) (hde : di ≠ dj) (hwi : Region.wanted oi (yielded ops a.tmps) = true) (hwj : Region.wanted oj (yielded ops a.tmps) = true)
    (hwi' : Region.wanted oi (yielded ops (a.tmps.setIfInBounds dj vj)) = true) (hwj' : Region.wanted oj (yielded ops (a.tmps.setIfInBounds di vi)) = true)
    (hr : Region.ready md ops listed = [i, j]) (hri : Region.ready md ops (listed.setIfInBounds i true) = [j]) (hrj : Region.ready md ops (listed.setIfInBounds j true) = [i])
    (hyi : (execOp a.eval oi).run P w = .ok (.value vi) w) (hyj : (execOp a.eval oj).run P w = .ok (.value vj) w')
    (hyi' : (execOp ({ a with tmps := a.tmps.setIfInBounds dj vj } : Act).eval oi).run P w' = .ok (.value vi) w') (hyj' : (execOp ({ a with tmps := a.tmps.setIfInBounds di vi } : Act).eval oj).run P w = .ok (.value vj) w') (hS : S w) (hS' : S w')
    (h : wpAnyH P md ops Q S fuel ((listed.setIfInBounds i true).setIfInBounds j true) { a with tmps := (a.tmps.setIfInBounds di vi).setIfInBounds dj vj } w') : wpAnyH P md ops Q S (fuel + 2) listed a w := by
  refine wpAnyH_ready (rs := [i, j]) hr (by simp) (AllReadyH.cons hi (fun K hK => ?_) (AllReadyH.cons hj (fun K hK => ?_) AllReadyH.nil))
  · rw [if_pos hwi]
    unfold Oper.wp
    rw [hyi]
    refine hK.out _ _ hS (fun _ => ?_)
    rw [hdi]
    refine held_step j vj hj hwj' hri hyj' hS' ?_
    rw [hdj]
    exact h
  · rw [if_pos hwj]
    unfold Oper.wp
    rw [hyj]
    refine hK.out _ _ hS' (fun _ => ?_)
    rw [hdj]
    refine held_one i di vi hi hdi hwi' hrj hyi' hS' ?_
    rw [Array.setIfInBounds_comm _ _ hne.symm]
    have e : ((a.put (some dj) vj).tmps.setIfInBounds di vi) = (a.tmps.setIfInBounds di vi).setIfInBounds dj vj := Array.setIfInBounds_comm _ _ hde.symm
    rw [e]
    exact h
/-- 'append(row, y)' at []api.Edge, that alone may come up next. -/
theorem held_append (i d : Nat) {ops : Array Oper} {Q : Exit → Act → World → Prop} {listed : Array Bool} {oi : Oper} (hi : ops[i]? = some oi) (hd : oi.dst = some d) (hgd : oi.guard = none) (s x : Operand)
    (hr : Region.ready md ops listed = [i])
    (ho : oi.op = .call { callee := .builtin .append, args := #[s, x], argTypes := #[23, 23] })
    (r : Option Nat) (A : Option Addr) (n c : Nat) (xs : List Edg) (hs : a.eval s = .slice A n c) (hown : OwnE w r A n c xs)
    (g : Nat) (y : Edg) (hx : a.eval x = .slice (some ⟨g, 0, none⟩) 1 1) (hblk : Blk w g 39 #[.int .u32 y.1, .int .u32 y.2.1, .int .u32 y.2.2]) (hy : (0 ≤ y.1 ∧ y.1 < 4294967296) ∧ (0 ≤ y.2.1 ∧ y.2.1 < 4294967296) ∧ (0 ≤ y.2.2 ∧ y.2.2 < 4294967296)) (hb : n ≤ 2199023255552)
    (h : ∀ r' A'' c'' w', OwnE w' r' A'' (n + 1) c'' (xs ++ [y]) → w.grownBy w' r → (r' = r ∨ ∀ g, r' = some g → w.heap.size ≤ g) → S w' ∧ wpAnyH Try.prog md ops Q S fuel (listed.setIfInBounds i true) { a with tmps := a.tmps.setIfInBounds d (.slice A'' (n + 1) c'') } w') : wpAnyH Try.prog md ops Q S (fuel + 1) listed a w := by
  refine wpAnyH_ready (rs := [i]) hr (by simp) (AllReadyH.cons hi (fun K hK => ?_) AllReadyH.nil)
  refine stepE1 hgd s x ho w r A n c xs hs hown g y hx hblk hy hb fun r' A'' c'' w' q1 q2 q3 => ?_
  obtain ⟨h1, h2⟩ := h r' A'' c'' w' q1 q2 q3
  refine hK.out _ _ h1 (fun _ => ?_)
  rw [hd]
  exact h2
end
end Go.Proofs.Ytklmckbpbloonaa
