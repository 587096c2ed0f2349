/- Parts of the proof: Opens. -/
import Derived.Test.YtklmckbpbloonaaBC2
import Derived.ProofKit
import Derived.Deep.Slices
import Derived.Deep.Strs
import Derived.Lib.SmallJoins
namespace Go.Proofs.Ytklmckbpbloonaa
open Go.ChangeShapes Go.WideShapes Go.ChangeAt Go.RowKit Go.Joins Go.Deep

/-- Arguments read behind the call as they did, if nothing that was there has turned. -/
theorem trodAll_below {H : Type} {enc : TypeId × Value → H} {P : Program} (hl : laidOutB P = true) {W W' : World} (hb : Below W.heap.size W W') : ∀ {ts : List TypeId} {vs : List Value} {ds : List (DataW H)} {ps : List MemPlace}, (ts.all fun t => P.readableRec t && decide (t < P.types.size)) = true →
    DataW.TrodAll enc P W 0 (fun _ => true) true ts vs ds ps → (∀ x ∈ ps, x.block < W.heap.size) → DataW.TrodAll enc P W' 0 (fun b => decide (b < W.heap.size)) true ts vs ds ps
  | [], [], [], _, _, h, _ => h
  | t :: ts, _ :: _, _ :: _, _, hT, ⟨p, q, h1, h2, e⟩, hs => by
    simp only [List.all_cons, Bool.and_eq_true, decide_eq_true_eq] at hT
    exact ⟨p, q, Below.trod hl hT.1.1 hT.1.2 h1 hb (fun x hx => hs x (by rw [e]; exact List.mem_append_left _ hx)), trodAll_below hl hb hT.2 h2 (fun x hx => hs x (by rw [e]; exact List.mem_append_right _ hx)), e⟩
section
variable {H : Type} {enc : TypeId × Value → H} {W : World}
theorem u32_wf {n : Int} (h : (Lit.int .u32 n).wf = true) : 0 ≤ n ∧ n < 4294967296 := by
  simp [Lit.wf, IntKind.min, IntKind.max, IntKind.bits, IntKind.signed] at h
  omega
theorem row_block {a : Addr} {n : Nat} {ps : List MemPlace} (hn : 0 < n) (h : ∀ p ∈ MemPlace.row a n ++ ps, p.block < W.heap.size) : a.block < W.heap.size := by
  refine h (.cell a.block (a.off + 0)) (List.mem_append_left _ ?_)
  unfold MemPlace.row
  exact List.mem_map.2 ⟨0, List.mem_range.2 hn, rfl⟩
/-- A []uint32 that came in. -/
theorem open_us {fuel : Nat} {v : Value} {y : DataW H × List MemPlace} (h : DataW.trod enc Try.prog W 0 (fun _ => true) true fuel 22 [v] = some y) (hlt : ∀ p ∈ y.2, p.block < W.heap.size) :
    ∃ A n c xs, v = .slice A n c ∧ RdU W W.heap.size A n c xs := by
  rcases open_ints Try.underlying22 Try.underlying31 (by kernel_rfl) h with ⟨hv, hy⟩ | ⟨a, len, cap, zs, hv, hb, hl, hm, hz, hy, hc, hw⟩
  · refine ⟨none, 0, 0, [], by simpa using hv, Reads.none_, Nat.le_refl _, by omega, fun _ => rfl, fun x hx => by simp at hx⟩
  · simp only [if_true] at hz
    subst hy
    refine ⟨some a, len, cap, zs.take len, by simpa using hv, ⟨by rw [U_len, List.length_take]; omega, fun hn => ⟨a, rfl, ?_, fun j u hu => ?_⟩⟩, hl, by unfold maxLen at hm; omega, (fun e => by cases e), fun x hx => u32_wf (hw x (List.mem_of_mem_take hx))⟩
    · exact row_block (n := zs.length) (ps := []) (by omega) (by simpa using hlt)
    · have hj : j < len := by
        have := (List.getElem?_eq_some_iff.1 hu).1
        rw [U_len, List.length_take] at this; omega
      have hjz : j < zs.length := by omega
      rw [hc j hjz]
      rw [U_at (x := zs[j]) (by rw [List.getElem?_take_of_lt hj]; exact List.getElem?_eq_getElem hjz)] at hu
      injection hu with hu
      rw [← hu]
      simp [hjz]
set_option maxRecDepth 100000 in
/-- A []Edge that came in. -/
theorem open_es {fuel : Nat} {v : Value} {y : DataW H × List MemPlace} (h : DataW.trod enc Try.prog W 0 (fun _ => true) true fuel 23 [v] = some y) (hlt : ∀ p ∈ y.2, p.block < W.heap.size) :
    ∃ A n c es, v = .slice A n c ∧ RdE W W.heap.size A n c es := by
  have hC : Try.prog.cellsOf 39 = 3 := by kernel_rfl
  have hc1 : Try.prog.cellsOf 31 = 1 := by kernel_rfl
  rcases open_slice Try.underlying23 h with ⟨hv, hy⟩ | ⟨a, len, cap, m, n, D, Pl, hv, hb, hl, hm, hmm, hy, hi⟩
  · refine ⟨none, 0, 0, [], by simpa using hv, Reads.none_, Nat.le_refl _, by omega, fun _ => rfl, fun x hx => by simp at hx⟩
  · simp only [if_true] at hmm
    subst hmm
    subst hy
    have key : ∀ i, ∃ e : Edg, i < m → (W.cell? (a.add (i * 3)) = some (.int .u32 e.1) ∧ W.cell? (a.add (i * 3 + 1)) = some (.int .u32 e.2.1) ∧ W.cell? (a.add (i * 3 + 2)) = some (.int .u32 e.2.2)) ∧
        (0 ≤ e.1 ∧ e.1 < 4294967296) ∧ (0 ≤ e.2.1 ∧ e.2.1 < 4294967296) ∧ (0 ≤ e.2.2 ∧ e.2.2 < 4294967296) := by
      intro i
      by_cases him : i < m
      · obtain ⟨cs', hc, ht⟩ := hi i him
        rw [hC] at hc
        obtain ⟨_, hcl, hat⟩ := World.cells?_some hc
        obtain ⟨x0, x1, x2, n', _, hn', h0, h1, h2⟩ := trod_struct3 Try.underlying39 ht
        match cs', hcl with
        | [v0, v1, v2], _ =>
          simp only [hc1, List.drop_zero, List.drop_succ_cons, List.take_succ_cons, List.take_zero] at h0 h1 h2
          obtain ⟨z0, e0, _, w0⟩ := DataW.trod_int Try.underlying31 h0
          obtain ⟨z1, e1, _, w1⟩ := DataW.trod_int Try.underlying31 h1
          obtain ⟨z2, e2, _, w2⟩ := DataW.trod_int Try.underlying31 h2
          simp only [List.cons.injEq, and_true] at e0 e1 e2
          subst e0; subst e1; subst e2
          have a0 := hat 0 (by omega)
          have a1 := hat 1 (by omega)
          have a2 := hat 2 (by omega)
          rw [add_of_add] at a0 a1 a2
          exact ⟨(z0, z1, z2), fun _ => ⟨⟨a0, a1, a2⟩, u32_wf w0, u32_wf w1, u32_wf w2⟩⟩
      · exact ⟨(0, 0, 0), fun hh => absurd hh him⟩
    let f : Nat → Edg := fun i => Classical.choose (key i)
    have hf : ∀ i, i < m → _ := fun i him => Classical.choose_spec (key i) him
    have hlen : ((List.range len).map f).length = len := by simp
    have hat : ∀ i, i < len → ((List.range len).map f)[i]? = some (f i) := fun i hil => by simp [hil]
    refine ⟨some a, len, m, (List.range len).map f, by simpa using hv, ⟨by rw [Ed_len, hlen], fun hn => ⟨a, rfl, ?_, fun j u hu => ?_⟩⟩, hl, by unfold maxLen at hm; omega, (fun e => by cases e), fun e he => ?_⟩
    · exact row_block (n := m * Try.prog.cellsOf 39) (by rw [hC]; omega) hlt
    · have hj : j < len * 3 := by
        have := (List.getElem?_eq_some_iff.1 hu).1
        rw [Ed_len, hlen] at this; omega
      obtain ⟨b0, b1, b2⟩ := Ed_at (hat (j / 3) (by omega))
      obtain ⟨⟨g0, g1, g2⟩, _⟩ := hf (j / 3) (by omega)
      rcases (show j = j / 3 * 3 ∨ j = j / 3 * 3 + 1 ∨ j = j / 3 * 3 + 2 by omega) with e | e | e
      · rw [e] at hu ⊢
        rw [b0] at hu; rw [g0, ← hu]
      · rw [e] at hu ⊢
        rw [b1] at hu; rw [g1, ← hu]
      · rw [e] at hu ⊢
        rw [b2] at hu; rw [g2, ← hu]
    · obtain ⟨i, hil, rfl⟩ := List.mem_map.1 he
      exact (hf i (by have := List.mem_range.1 hil; omega)).2
set_option maxRecDepth 100000 in
/-- A graph by value. -/
theorem open_graph {b0 : Nat} {v : Value} {d : DataW H} {p : List MemPlace} (hv : Value.okWide Try.prog W .any b0 25 v) (h : DataW.Trod enc Try.prog W 0 (fun _ => true) true 25 v d p) (hlt : ∀ x ∈ p, x.block < W.heap.size) :
    ∃ A n c A' n' c' vs es, v = .agg #[.slice A n c, .slice A' n' c'] ∧ RdU W W.heap.size A n c vs ∧ RdE W W.heap.size A' n' c' es := by
  obtain ⟨v0, v1, y0, y1, n, rfl, rfl, rfl, h0, h1⟩ := open_agg2 Try.underlying25 (by kernel_rfl) (by kernel_rfl) hv h
  obtain ⟨A, n1, c, xs, rfl, k0⟩ := open_us h0 fun x hx => hlt x (List.mem_append_left _ hx)
  obtain ⟨A', n', c', es, rfl, k1⟩ := open_es h1 fun x hx => hlt x (List.mem_append_right _ hx)
  exact ⟨A, n1, c, A', n', c', xs, es, rfl, k0, k1⟩

set_option maxRecDepth 100000 in
theorem laidOutP : laidOutB Try.prog = true := by kernel_rfl
/-- The row's last step: it returned true; nothing that was there has turned; the arguments read as they did. -/
theorem post_true {f : Func} {s : ChangeSpec} {W' : World} {args : Array Value} {ds : List (DataW H)} {before : List MemPlace} (hr : f.resultTypes = #[4]) (hs0 : s.vars = [])
    (hts : (f.params.toList.all fun t => Try.prog.readableRec t && decide (t < Try.prog.types.size)) = true)
    (hW : DataW.Whole enc Try.prog f.params.toList s.vars false W args.toList ds [] before) (hres : (s.fn H ds).results = [.lit (.bool true)]) (hargs : (s.fn H ds).args = ds) (hvars : (s.fn H ds).vars = [])
    (hb : Below W.heap.size W W') : s.post enc Try.prog f false true false false W args (.bool true) W' := by
  have hlt : ∀ p ∈ before, p.block < W.heap.size := fun p hp => hW.lt p hp
  refine ⟨ds, [], before, [], before, [], hW, ?_, ?_, ?_, hb.frame _, fun h => by cases h⟩
  · rw [List.append_nil, hres, hr]
    exact trodAll_mk1 (shut_bool Try.underlying4 true)
  · rw [List.append_nil, hargs]
    obtain ⟨p, q, hA, hV, rfl, _⟩ := hW
    rw [hs0] at hV
    obtain rfl : q = [] := hV
    rw [List.append_nil] at hlt ⊢
    exact trodAll_below laidOutP hb hts hA hlt
  · rw [List.append_nil, hvars, hs0]; exact rfl
end
end Go.Proofs.Ytklmckbpbloonaa
