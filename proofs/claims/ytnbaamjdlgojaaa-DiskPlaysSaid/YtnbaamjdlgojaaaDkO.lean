/- Acts that came in: read in memory, opened as arguments. -/
import Derived.Test.YtnbaamjdlgojaaaOpenK
import Derived.Test.YtnbaamjdlgojaaaDkA
import Derived.Deep.Grids
namespace Go.Proofs.Ytnbaamjdlgojaaa
open Go.ChangeShapes Go.WideShapes Go.ChangeAt Go.RowKit Go.Joins Go.Deep

/-- What is done. -/
structure Deed where
  kind : Int
  at_ : Int
  b : Int
  kA : Option Addr
  kn : Nat
  kc : Nat
  kept : List Bool
def deedC (a : Deed) : List Value := [.int .i64 a.kind, .int .i64 a.at_, .int .u8 a.b, .slice a.kA a.kn a.kc]
def Dc (dl : List Deed) : List Value := dl.flatMap deedC
theorem Dc_len (dl : List Deed) : (Dc dl).length = dl.length * 4 := by
  induction dl with
  | nil => rfl
  | cons a dl ih => simp [Dc, deedC] at ih ⊢; omega
theorem Dc_at {dl : List Deed} {k : Nat} {a : Deed} (h : dl[k]? = some a) : (Dc dl)[k * 4]? = some (.int .i64 a.kind) ∧ (Dc dl)[k * 4 + 1]? = some (.int .i64 a.at_) ∧ (Dc dl)[k * 4 + 2]? = some (.int .u8 a.b) ∧ (Dc dl)[k * 4 + 3]? = some (.slice a.kA a.kn a.kc) := by
  induction dl generalizing k with
  | nil => simp at h
  | cons x dl ih =>
    cases k with
    | zero => simp at h; subst h; simp [Dc, deedC]
    | succ k =>
      have := ih (k := k) (by simpa using h)
      have e1 : (k + 1) * 4 = k * 4 + 4 := by omega
      simp only [e1, Dc, List.flatMap_cons] at this ⊢
      refine ⟨?_, ?_, ?_, ?_⟩
      · rw [List.getElem?_append_right (by simp [deedC])]; simpa [deedC] using this.1
      · rw [List.getElem?_append_right (by simp [deedC])]; simpa [deedC] using this.2.1
      · rw [List.getElem?_append_right (by simp [deedC])]; simpa [deedC] using this.2.2.1
      · rw [List.getElem?_append_right (by simp [deedC])]; simpa [deedC] using this.2.2.2
structure DeedOk (w : World) (B : Nat) (a : Deed) : Prop where
  kept : RdB w B a.kA a.kn a.kc a.kept
  at_ : -9223372036854775808 ≤ a.at_ ∧ a.at_ ≤ 9223372036854775807
  kind : -9223372036854775808 ≤ a.kind ∧ a.kind ≤ 9223372036854775807
  b : 0 ≤ a.b ∧ a.b < 256
/-- A []Act that reads as a list. -/
def RdA (w : World) (B : Nat) (A : Option Addr) (n c : Nat) (dl : List Deed) : Prop := Reads w B 4 A n (Dc dl) ∧ n ≤ c ∧ c ≤ 9223372036854775807 ∧ ∀ a ∈ dl, DeedOk w B a
theorem RdA.len {w : World} {B n c : Nat} {A : Option Addr} {dl : List Deed} (h : RdA w B A n c dl) : dl.length = n := by have := h.1.1; rw [Dc_len] at this; omega
theorem RdA.below {w w' : World} {B n c : Nat} {A : Option Addr} {dl : List Deed} (h : RdA w B A n c dl) (hb : Below B w w') : RdA w' B A n c dl :=
  ⟨h.1.below hb, h.2.1, h.2.2.1, fun a ha => ⟨(h.2.2.2 a ha).kept.below hb, (h.2.2.2 a ha).at_, (h.2.2.2 a ha).kind, (h.2.2.2 a ha).b⟩⟩
theorem RdA.at_ {w : World} {B n c k : Nat} {A : Option Addr} {dl : List Deed} (h : RdA w B A n c dl) (hk : k < n) :
    ∃ ad x, A = some ad ∧ ad.block < B ∧ dl[k]? = some x ∧ DeedOk w B x ∧ w.cell? (ad.add (k * 4)) = some (.int .i64 x.kind) ∧ w.cell? ⟨(ad.add (k * 4)).block, (ad.add (k * 4)).off + 1, none⟩ = some (.int .i64 x.at_) ∧
      w.cell? ⟨(ad.add (k * 4)).block, (ad.add (k * 4)).off + 2, none⟩ = some (.int .u8 x.b) ∧ w.cell? ⟨(ad.add (k * 4)).block, (ad.add (k * 4)).off + 3, none⟩ = some (.slice x.kA x.kn x.kc) := by
  obtain ⟨ad, e, hb, hc⟩ := h.1.2 (by omega)
  have hl : k < dl.length := by have := h.len; omega
  obtain ⟨h1, h2, h3, h4⟩ := Dc_at (List.getElem?_eq_getElem hl)
  exact ⟨ad, dl[k], e, hb, List.getElem?_eq_getElem hl, h.2.2.2 _ (List.getElem_mem hl), hc _ _ h1, by rw [add_next]; exact hc _ _ h2, by rw [add_next]; exact hc _ _ h3, by rw [add_next]; exact hc _ _ h4⟩
section
variable {H : Type} {enc : TypeId × Value → H} {W : World}
theorem open_bs {fuel : Nat} {v : Value} {y : DataW H × List MemPlace} (h : DataW.trod enc Try.prog W 0 (fun _ => true) true fuel 23 [v] = some y) (hlt : ∀ p ∈ y.2, p.block < W.heap.size) :
    ∃ A n c xs, v = .slice A n c ∧ RdB W W.heap.size A n c xs := by
  rcases open_bools Try.underlying23 Try.underlying4 (by kernel_rfl) h with ⟨hv, hy⟩ | ⟨a, len, cap, Bf, hv, hb, hl, hm, hy, hc⟩
  · exact ⟨none, 0, 0, [], by simpa using hv, RdB.none_ _ _⟩
  · subst hy
    refine ⟨some a, len, cap, (List.range len).map Bf, by simpa using hv, ⟨by simp, fun hn => ⟨a, rfl, ?_, fun j u hu => ?_⟩⟩, hl, by unfold maxLen at hm; omega⟩
    · exact row_block (n := cap) (ps := []) (by omega) (by simpa using hlt)
    · have hj : j < len := by
        have := (List.getElem?_eq_some_iff.1 hu).1
        simpa using this
      rw [hc j (by omega), ← hu]
      simp [hj]
theorem i64_wf {n : Int} (h : (Lit.int .i64 n).wf = true) : -9223372036854775808 ≤ n ∧ n ≤ 9223372036854775807 := by
  simp [Lit.wf, IntKind.min, IntKind.max, IntKind.bits, IntKind.signed] at h
  omega
theorem u8_wf {n : Int} (h : (Lit.int .u8 n).wf = true) : 0 ≤ n ∧ n < 256 := by
  simp [Lit.wf, IntKind.min, IntKind.max, IntKind.bits, IntKind.signed] at h
  omega
set_option maxRecDepth 100000 in
/-- A []Act that came in. -/
theorem open_acts {fuel : Nat} {v : Value} {y : DataW H × List MemPlace} (h : DataW.trod enc Try.prog W 0 (fun _ => true) true fuel 22 [v] = some y) (hlt : ∀ p ∈ y.2, p.block < W.heap.size) :
    ∃ A n c dl, v = .slice A n c ∧ RdA W W.heap.size A n c dl ∧ (n = 0 ∨ ∃ el sp, y.1 = .slice el sp ∧ el.length = n) := by
  have hC : Try.prog.cellsOf 30 = 4 := by kernel_rfl
  have c1 : Try.prog.cellsOf 3 = 1 := by kernel_rfl
  have c2 : Try.prog.cellsOf 5 = 1 := by kernel_rfl
  have c3 : Try.prog.cellsOf 23 = 1 := by kernel_rfl
  rcases open_slice Try.underlying22 h with ⟨hv, hy⟩ | ⟨a, len, cap, m, n, D, Pl, hv, hb, hl, hm, hmm, hy, hi⟩
  · exact ⟨none, 0, 0, [], by simpa using hv, ⟨Reads.none_, Nat.le_refl _, by omega, fun x hx => by simp at hx⟩, .inl rfl⟩
  · simp only [if_true] at hmm
    subst hmm
    subst hy
    have key : ∀ i, ∃ e : Deed, i < m → (W.cell? (a.add (i * 4)) = some (.int .i64 e.kind) ∧ W.cell? (a.add (i * 4 + 1)) = some (.int .i64 e.at_) ∧ W.cell? (a.add (i * 4 + 2)) = some (.int .u8 e.b) ∧ W.cell? (a.add (i * 4 + 3)) = some (.slice e.kA e.kn e.kc)) ∧
        DeedOk W W.heap.size e := by
      intro i
      by_cases him : i < m
      · obtain ⟨cs', hc, ht⟩ := hi i him
        rw [hC] at hc
        obtain ⟨_, hcl, hat⟩ := World.cells?_some hc
        obtain ⟨x0, x1, x2, x3, n', ex, hn', h0, h1, h2, h3⟩ := trod_struct4 Try.underlying30 ht
        match cs', hcl with
        | [v0, v1, v2, v3], _ =>
          simp only [c1, c2, c3, List.drop_zero, List.drop_succ_cons, List.take_succ_cons, List.take_zero] at h0 h1 h2 h3
          obtain ⟨z0, e0, _, w0⟩ := DataW.trod_int Try.underlying3 h0
          obtain ⟨z1, e1, _, w1⟩ := DataW.trod_int Try.underlying3 h1
          obtain ⟨z2, e2, _, w2⟩ := DataW.trod_int Try.underlying5 h2
          obtain ⟨kA, kn, kc, kept, e3, hk⟩ := open_bs h3 (fun p hp => hlt p (List.mem_append_right _ (List.mem_flatMap.2 ⟨i, List.mem_range.2 him, by
            have : Pl i = (D i, Pl i).2 := rfl
            rw [this, ex]; simp [hp]⟩)))
          simp only [List.cons.injEq, and_true] at e0 e1 e2
          subst e0; subst e1; subst e2; subst e3
          have a0 := hat 0 (by omega)
          have a1 := hat 1 (by omega)
          have a2 := hat 2 (by omega)
          have a3 := hat 3 (by omega)
          rw [add_of_add] at a0 a1 a2 a3
          exact ⟨⟨z0, z1, z2, kA, kn, kc, kept⟩, fun _ => ⟨⟨a0, a1, a2, a3⟩, hk, i64_wf w1, i64_wf w0, u8_wf w2⟩⟩
      · exact ⟨⟨0, 0, 0, none, 0, 0, []⟩, fun hh => absurd hh him⟩
    let f : Nat → Deed := fun i => Classical.choose (key i)
    have hf : ∀ i, i < m → _ := fun i him => Classical.choose_spec (key i) him
    have hlen : ((List.range len).map f).length = len := by simp
    have hat : ∀ i, i < len → ((List.range len).map f)[i]? = some (f i) := fun i hil => by simp [hil]
    refine ⟨some a, len, m, (List.range len).map f, by simpa using hv, ⟨⟨by rw [Dc_len, hlen], fun hn => ⟨a, rfl, ?_, fun j u hu => ?_⟩⟩, hl, by unfold maxLen at hm; omega, fun e he => ?_⟩, .inr ⟨_, _, rfl, by simp⟩⟩
    · exact row_block (n := m * Try.prog.cellsOf 30) (by rw [hC]; omega) hlt
    · have hj : j < len * 4 := by
        have := (List.getElem?_eq_some_iff.1 hu).1
        rw [Dc_len, hlen] at this; omega
      obtain ⟨b0, b1, b2, b3⟩ := Dc_at (hat (j / 4) (by omega))
      obtain ⟨⟨g0, g1, g2, g3⟩, _⟩ := hf (j / 4) (by omega)
      rcases (show j = j / 4 * 4 ∨ j = j / 4 * 4 + 1 ∨ j = j / 4 * 4 + 2 ∨ j = j / 4 * 4 + 3 by omega) with e | e | e | e
      · rw [e] at hu ⊢
        rw [b0] at hu; rw [g0, ← hu]
      · rw [e] at hu ⊢
        rw [b1] at hu; rw [g1, ← hu]
      · rw [e] at hu ⊢
        rw [b2] at hu; rw [g2, ← hu]
      · rw [e] at hu ⊢
        rw [b3] at hu; rw [g3, ← hu]
    · obtain ⟨i, hil, rfl⟩ := List.mem_map.1 he
      exact (hf i (by have := List.mem_range.1 hil; omega)).2
end
end Go.Proofs.Ytnbaamjdlgojaaa
