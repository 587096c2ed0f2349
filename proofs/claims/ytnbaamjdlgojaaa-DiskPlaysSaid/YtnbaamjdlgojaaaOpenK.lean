/- The row's last step where nothing that was there has turned. -/
import Derived.Test.YtnbaamjdlgojaaaProg
import Derived.Test.YtnbaamjdlgojaaaBase
import Derived.ProofKit
import Derived.Deep.Slices
import Derived.Deep.Strs
import Derived.Lib.SmallJoins
namespace Go.Proofs.Ytnbaamjdlgojaaa
open Go.ChangeShapes Go.WideShapes Go.ChangeAt Go.RowKit Go.Joins Go.Deep

/-- Arguments read behind the call as they did, if nothing that was there has turned. -/
theorem trodAll_below {H : Type} {enc : TypeId × Value → H} {P : Program} (hl : laidOutB P = true) {W W' : World} (hb : Below W.heap.size W W') : ∀ {ts : List TypeId} {vs : List Value} {ds : List (DataW H)} {ps : List MemPlace}, (ts.all fun t => P.readableRec t && decide (t < P.types.size)) = true →
    DataW.TrodAll enc P W 0 (fun _ => true) true ts vs ds ps → (∀ x ∈ ps, x.block < W.heap.size) → DataW.TrodAll enc P W' 0 (fun b => decide (b < W.heap.size)) true ts vs ds ps
  | [], [], [], _, _, h, _ => h
  | t :: ts, _ :: _, _ :: _, _, hT, ⟨p, q, h1, h2, e⟩, hs => by
    simp only [List.all_cons, Bool.and_eq_true, decide_eq_true_eq] at hT
    exact ⟨p, q, Below.trod hl hT.1.1 hT.1.2 h1 hb (fun x hx => hs x (by rw [e]; exact List.mem_append_left _ hx)), trodAll_below hl hb hT.2 h2 (fun x hx => hs x (by rw [e]; exact List.mem_append_right _ hx)), e⟩
section
variable {H : Type} {enc : TypeId × Value → H} {W : World}
theorem row_block {a : Addr} {n : Nat} {ps : List MemPlace} (hn : 0 < n) (h : ∀ p ∈ MemPlace.row a n ++ ps, p.block < W.heap.size) : a.block < W.heap.size := by
  refine h (.cell a.block (a.off + 0)) (List.mem_append_left _ ?_)
  unfold MemPlace.row
  exact List.mem_map.2 ⟨0, List.mem_range.2 hn, rfl⟩
set_option maxRecDepth 100000 in
theorem laidOutP : laidOutB Try.prog = true := by kernel_rfl
/-- The row's last step: it returned true; nothing that was there has turned; the arguments read as they did. -/
theorem post_true {f : Func} {s : ChangeSpec} {W' : World} {args : Array Value} {ds : List (DataW H)} {before : List MemPlace} (hr : f.resultTypes = #[4]) (hs0 : s.vars = [])
    (hts : (f.params.toList.all fun t => Try.prog.readableRec t && decide (t < Try.prog.types.size)) = true)
    (hW : DataW.Whole enc Try.prog f.params.toList s.vars false W args.toList ds [] before) (hres : (s.fn H ds).results = [.lit (.bool true)]) (hargs : (s.fn H ds).args = ds) (hvars : (s.fn H ds).vars = [])
    (hb : Below W.heap.size W W') : s.post enc Try.prog f false true false false W args (.bool true) W' := by
  have hlt : ∀ p ∈ before, p.block < W.heap.size := fun p hp => hW.lt p hp
  refine ⟨ds, [], before, [], before, [], hW, ?_, ?_, ?_, hb.frame _, fun h => by cases h⟩
  · rw [List.append_nil, hres, hr]
    exact trodAll_mk1 (shut_bool Try.underlying4 true)
  · rw [List.append_nil, hargs]
    obtain ⟨p, q, hA, hV, rfl, _⟩ := hW
    rw [hs0] at hV
    obtain rfl : q = [] := hV
    rw [List.append_nil] at hlt ⊢
    exact trodAll_below laidOutP hb hts hA hlt
  · rw [List.append_nil, hvars, hs0]; exact rfl
end
end Go.Proofs.Ytnbaamjdlgojaaa
