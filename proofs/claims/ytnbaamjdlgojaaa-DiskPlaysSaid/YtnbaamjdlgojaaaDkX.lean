/- Walks: a sector read, what lasts in it. -/
import Derived.Test.YtnbaamjdlgojaaaDkW
namespace Go.Proofs.Ytnbaamjdlgojaaa
open Go.RowKit

theorem size_setC (g : Nat) : ∀ (vs : List Value) (o : Nat) (w : World), (w.setCells g o vs).heap.size = w.heap.size
  | [], _, _ => rfl
  | v :: r, o, w => (size_setC g r _ _).trans (by simp)
section
variable {ops : Array Oper} {rest : List Oper} {o : Oper} {a : Act} {Q : Exit → Act → World → Prop} {w : World}
theorem ca_toList (b : Bl) : (ca b).toList = bc b := by simp [ca]
/-- A block is stored into a variable of its own. -/
theorem wpList_storeB (hg : o.guard = none) (x y : Operand) (ho : o.op = .store 33 x y) (g : Nat) (b b' : Bl) (hx : a.eval x = .pointer (some ⟨g, 0, none⟩)) (hy : a.eval y = .agg (ca b')) (hb : BlAt w g b) (hb' : okB b')
    (h : ∀ w', BlAt w' g b' → Chg [g] w w' → w'.heap.size = w.heap.size → wpList Try.prog ops Q rest (a.put o.dst undef) w') : wpList Try.prog ops Q (o :: rest) a w := by
  refine wpList_store_mid hg 33 x y ho g 0 (ca b') hx hy (by rw [ca_size, hb'.1]; exact hb.there) (infoB' hb') (ca_one b') ?_
  rw [ca_toList]
  exact h _ (hb.set hb') ((Chg.refl [g] w).setCells (by simp)) (size_setC _ _ _ _)
/-- A block is stored into a row of blocks. -/
theorem wpList_storeAt (hg : o.guard = none) (x y : Operand) (ho : o.op = .store 33 x y) (l i : Nat) (bs : List Bl) (b' : Bl) (hx : a.eval x = .pointer (some ⟨l, i * 512, none⟩)) (hy : a.eval y = .agg (ca b')) (hb : LastAt w l bs) (hi : i < bs.length) (hb' : okB b')
    (h : ∀ w', LastAt w' l (bs.set i b') → Chg [l] w w' → w'.heap.size = w.heap.size → wpList Try.prog ops Q rest (a.put o.dst undef) w') : wpList Try.prog ops Q (o :: rest) a w := by
  refine wpList_store_mid hg 33 x y ho l (i * 512) (ca b') hx hy (by rw [ca_size, hb'.1]; exact hb.there hi) (infoB' hb') (ca_one b') ?_
  rw [ca_toList]
  exact h _ (hb.set hb' hi) ((Chg.refl [l] w).setCells (by simp)) (size_setC _ _ _ _)
theorem wpList_loadB (hg : o.guard = none) (x : Operand) (ho : o.op = .load 33 x) (g : Nat) (b : Bl) (hx : a.eval x = .pointer (some ⟨g, 0, none⟩)) (hb : BlAt w g b)
    (h : wpList Try.prog ops Q rest (a.put o.dst (.agg (ca b))) w) : wpList Try.prog ops Q (o :: rest) a w :=
  wpList_load_mid hg 33 x ho g 0 hx (bc b) _ hb.range Try.underlying33 rfl (infoBl hb.2) h
theorem wpList_loadAt (hg : o.guard = none) (x : Operand) (ho : o.op = .load 33 x) (l i : Nat) (bs : List Bl) (b : Bl) (hx : a.eval x = .pointer (some ⟨l, i * 512, none⟩)) (hb : LastAt w l bs) (hi : bs[i]? = some b)
    (h : wpList Try.prog ops Q rest (a.put o.dst (.agg (ca b))) w) : wpList Try.prog ops Q (o :: rest) a w :=
  wpList_load_mid hg 33 x ho l (i * 512) hx (bc b) _ (hb.range hi) Try.underlying33 rfl (infoBl (hb.2 b (List.mem_of_getElem? hi))) h
end
theorem BlAt.fresh (w : World) : BlAt (w.alloc (.cells (ca zB) 33)) w.heap.size zB := ⟨Blk.new w _ _, zB_ok⟩

set_option maxRecDepth 100000 in
theorem lasts_nil (n : Int) (w : World) : Calls Try.prog 10 #[.pointer none, .int .i64 n] w fun e w' => e = .returned (.agg (ca zB)) ∧ Below w.heap.size w w' := by
  have hz := zeroB
  have hbd := buildB
  have h0 := BlAt.fresh w
  have hB := (Below.refl w.heap.size w).alloc (Nat.le_refl _) (.cells (ca zB) 33)
  have H0 := Lib.hid h0
  have HB := Lib.hid hB
  clear h0 hB
  go_enter Try.func10, Try.ntmps10
  go_wp2_with (first | (refine wpList_storeB rfl (.tmp 4) (.tmp 20) rfl w.heap.size zB zB rfl rfl H0.out zB_ok ?_; intro w1 k1 k2 k3))
  have e1 : BlAt w1 w.heap.size zB := k1
  refine bodyPost_ret (v := .agg (ca zB)) (results_cell_row Try.results10 _ w1 w.heap.size 33 (ca zB) (0, 0) _ rfl e1.1 Try.underlying33 rfl (infoB' zB_ok)) rfl ⟨rfl, HB.out.trans (k2.below (by simp) (by simp))⟩
theorem run_loadB {w : World} {g : Nat} {b : Bl} (h : BlAt w g b) : (loadVar 33 ⟨g, 0, none⟩).run Try.prog w = .ok (.agg (ca b)) w :=
  run_loadVar_mid w g 0 33 (bc b) _ h.range Try.underlying33 rfl (infoBl h.2)
/-- What is read of a sector. -/
def readB (s : DS) (n : Int) : Bl := if mayN s n = 0 then (mget s.cache n).getD (s.last.getD n.toNat []) else zB
set_option maxRecDepth 100000 in
theorem read_nil (n : Int) (w : World) : Calls Try.prog 13 #[.pointer none, .int .i64 n] w fun e w' => e = .returned (.tuple #[.agg (ca zB), .int .i64 1]) ∧ Below w.heap.size w w' := by
  have hz := zeroB
  have hbd := buildB
  have h0 := BlAt.fresh w
  have hB := (Below.refl w.heap.size w).alloc (Nat.le_refl _) (.cells (ca zB) 33)
  have H0 := Lib.hid h0
  have HB := Lib.hid hB
  clear h0 hB
  go_enter Try.func13, Try.ntmps13
  go_wp2_with (first | (go_at_call 22; refine (may_nil _ _).mono ?_; rintro e w' ⟨rfl, rfl⟩) | (refine wpList_storeB rfl (.tmp 4) (.tmp 14) rfl w.heap.size zB zB rfl rfl H0.out zB_ok ?_; intro w1 k1 k2 k3))
  have hl := run_loadB k1
  refine bodyPost_ret (v := .tuple #[.agg (ca zB), .int .i64 1]) (by simp [results, Try.results13, asAddr, hl]) rfl ⟨rfl, HB.out.trans (k2.below (by simp) (by simp))⟩
end Go.Proofs.Ytnbaamjdlgojaaa
