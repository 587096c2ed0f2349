/- Walks: the disk's small functions. -/
import Derived.Test.YtnbaamjdlgojaaaDkM
import Derived.IntWalk
namespace Go.Proofs.Ytnbaamjdlgojaaa
open Go.RowKit

/-- A disk's state. -/
structure DS where
  steps : Int
  fuse : Int
  down : Bool
  cache : List (Int × Bl)
  last : List Bl
def dkCells (s : DS) (b l : Nat) : Array Value := #[.int .i64 s.steps, .int .i64 s.fuse, .bool s.down, .map (some b), .slice (some ⟨l, 0, none⟩) s.last.length s.last.length]
structure DsOk (s : DS) : Prop where
  lo : 64 ≤ s.last.length
  hi : s.last.length ≤ 4096
  keys : ∀ k ∈ mkeys s.cache, 0 ≤ k ∧ k < s.last.length
  nodup : (mkeys s.cache).Nodup
  bls : ∀ k b, mget s.cache k = some b → okB b
  last : ∀ b ∈ s.last, okB b
  fuse : -1 ≤ s.fuse ∧ s.fuse ≤ 9223372036854775807
/-- Blocks g, b, l hold the disk in state s. -/
structure DkAt (w : World) (g b l : Nat) (s : DS) : Prop where
  head : Blk w g 59 (dkCells s b l)
  cache : MapOf w b .i64 encB s.cache
  last : LastAt w l s.last
  ok : DsOk s
section
variable {w w' : World} {g b l : Nat} {s : DS} {S : List Nat}
theorem DkAt.ne (h : DkAt w g b l s) : g ≠ b ∧ g ≠ l ∧ b ≠ l :=
  ⟨fun e => h.cache.ne_cells h.head e.symm, Blk.ne_ h.head h.last.1 (by decide), h.cache.ne_cells h.last.1⟩
theorem DkAt.keep (h : DkAt w g b l s) (hc : Chg S w w') (h1 : g ∉ S) (h2 : b ∉ S) (h3 : l ∉ S) : DkAt w' g b l s := ⟨hc.blk h.head h1, hc.map h.cache h2, hc.last h.last h3, h.ok⟩
theorem DkAt.below (h : DkAt w g b l s) (hb : Below w.heap.size w w') : DkAt w' g b l s := h.keep (Chg.of_below hb []) (by simp) (by simp) (by simp)
theorem DkAt.drewN (h : DkAt w g b l s) (n : Nat) : DkAt (w.drewN n) g b l s := ⟨h.head, h.cache, h.last, h.ok⟩
theorem DkAt.c (h : DkAt w g b l s) : w.cell? ⟨g, 0, none⟩ = some (.int .i64 s.steps) ∧ w.cell? ⟨g, 1, none⟩ = some (.int .i64 s.fuse) ∧ w.cell? ⟨g, 2, none⟩ = some (.bool s.down) ∧ w.cell? ⟨g, 3, none⟩ = some (.map (some b)) ∧ w.cell? ⟨g, 4, none⟩ = some (.slice (some ⟨l, 0, none⟩) s.last.length s.last.length) :=
  ⟨h.head.cell 0, h.head.cell 1, h.head.cell 2, h.head.cell 3, h.head.cell 4⟩
theorem DkAt.f (h : DkAt w g b l s) : w.frozen? ⟨g, 0, none⟩ = false ∧ w.frozen? ⟨g, 1, none⟩ = false ∧ w.frozen? ⟨g, 2, none⟩ = false :=
  ⟨h.head.frozen 0, h.head.frozen 1, h.head.frozen 2⟩
end

theorem DkAt.meter {w w' : World} {g b l : Nat} {s s' : DS} (h : DkAt w g b l s) (hc : Chg [g] w w') (hb : Blk w' g 59 (dkCells s' b l)) (e1 : s'.cache = s.cache) (e2 : s'.last = s.last) (hf : -1 ≤ s'.fuse ∧ s'.fuse ≤ 9223372036854775807) : DkAt w' g b l s' := by
  obtain ⟨n1, n2, n3⟩ := h.ne
  obtain ⟨a1, a2, a3, a4, a5, a6, a7⟩ := h.ok
  refine ⟨hb, by rw [e1]; exact hc.map h.cache (by simp; omega), by rw [e2]; exact hc.last h.last (by simp; omega), ⟨by rw [e2]; exact a1, by rw [e2]; exact a2, by rw [e1, e2]; exact a3, by rw [e1]; exact a4, by rw [e1]; exact a5, by rw [e2]; exact a6, hf⟩⟩
theorem gone_any (g : Nat) (down : Bool) (w : World) (h : w.cell? ⟨g, 2, none⟩ = some (.bool down)) :
    Calls Try.prog 26 #[.pointer (some ⟨g, 0, none⟩)] w fun e w' => e = .returned (.bool down) ∧ w = w' := by
  go_enter Try.func26, Try.ntmps26
  go_wp2
  go_ret
  exact ⟨rfl, rfl⟩
/-- What 'may' answers. -/
def mayN (s : DS) (at_ : Int) : Int := if s.down then 13 else if at_ < 0 ∨ (s.last.length : Int) ≤ at_ then 2 else 0
theorem may_nil (n : Int) (w : World) : Calls Try.prog 22 #[.pointer none, .int .i64 n] w fun e w' => e = .returned (.int .i64 1) ∧ w = w' := by
  go_enter Try.func22, Try.ntmps22
  go_wp2
  go_ret
  exact ⟨rfl, rfl⟩
theorem may_any (g b l : Nat) (s : DS) (at_ : Int) (w : World) (h : DkAt w g b l s) :
    Calls Try.prog 22 #[.pointer (some ⟨g, 0, none⟩), .int .i64 at_] w fun e w' => e = .returned (.int .i64 (mayN s at_)) ∧ w = w' := by
  obtain ⟨c0, c1, c2, c3, c4⟩ := h.c
  cases hd : s.down
  · have HD := Lib.hid hd
    rw [hd] at c2
    clear hd h
    by_cases h1 : at_ < 0
    · go_enter Try.func22, Try.ntmps22
      go_wp2_with (go_at_call 26; refine (gone_any _ false _ c2).mono ?_; rintro e w' ⟨rfl, rfl⟩)
      go_ret
      exact ⟨ret_int (by unfold mayN; rw [HD.out]; simp [h1]), rfl⟩
    · have h1' : decide (at_ < 0) = false := by simp; omega
      by_cases h2 : (s.last.length : Int) ≤ at_
      · go_enter Try.func22, Try.ntmps22
        go_wp2_with (go_at_call 26; refine (gone_any _ false _ c2).mono ?_; rintro e w' ⟨rfl, rfl⟩)
        go_ret
        exact ⟨ret_int (by unfold mayN; rw [HD.out]; simp [h2]), rfl⟩
      · have h2' : decide ((s.last.length : Int) ≤ at_) = false := by simp; omega
        go_enter Try.func22, Try.ntmps22
        go_wp2_with (go_at_call 26; refine (gone_any _ false _ c2).mono ?_; rintro e w' ⟨rfl, rfl⟩)
        go_ret
        exact ⟨ret_int (by unfold mayN; rw [HD.out]; simp; omega), rfl⟩
  · have HD := Lib.hid hd
    rw [hd] at c2
    clear hd h
    go_enter Try.func22, Try.ntmps22
    go_wp2_with (go_at_call 26; refine (gone_any _ true _ c2).mono ?_; rintro e w' ⟨rfl, rfl⟩)
    go_ret
    exact ⟨ret_int (by unfold mayN; rw [HD.out]; simp), rfl⟩
/-- A step. -/
def ticked (s : DS) : DS := if s.fuse = 0 then { s with down := true } else { s with fuse := if 0 < s.fuse then s.fuse - 1 else s.fuse, steps := s.steps + 1 }
def tickN (s : DS) : Int := if s.fuse = 0 then 13 else 0
set_option maxRecDepth 100000 in
theorem tick_any (g b l : Nat) (s : DS) (w : World) (h : DkAt w g b l s) (hst : 0 ≤ s.steps ∧ s.steps ≤ 1000000) :
    Calls Try.prog 23 #[.pointer (some ⟨g, 0, none⟩)] w fun e w' => e = .returned (.int .i64 (tickN s)) ∧ Blk w' g 59 (dkCells (ticked s) b l) ∧ Chg [g] w w' := by
  obtain ⟨c0, c1, c2, c3, c4⟩ := h.c
  obtain ⟨f0, f1, f2⟩ := h.f
  have hg := h.head.lt
  have HH := Lib.hid h.head
  obtain ⟨o1, o2⟩ := h.ok.fuse
  obtain ⟨o3, o4⟩ := hst
  clear h
  by_cases h0 : s.fuse = 0
  · have h0' : (s.fuse == 0) = true := by simp [h0]
    have H0 := Lib.hid h0
    clear h0
    go_enter Try.func23, Try.ntmps23
    go_wp2
    go_ret
    refine ⟨ret_int (by unfold tickN; rw [if_pos H0.out]), ?_, (Chg.refl [g] w).setCell (p := ⟨g, 2, none⟩) (by simp) _⟩
    have := HH.out.set_ 2 (.bool true)
    unfold ticked; rw [if_pos H0.out]
    simpa [dkCells] using this
  · have h0' : (s.fuse == 0) = false := by simp [h0]
    have H0 := Lib.hid h0
    clear h0
    by_cases h1 : 0 < s.fuse
    · have hw : IntKind.i64.wrap (s.fuse - 1) = s.fuse - 1 := IntWalk.i64_in _ (by omega)
      have h2 : ¬ s.fuse < -1 := by omega
      have h3 : ¬ s.fuse - 1 < -1 := by omega
      have h4 : -1 < s.fuse := by omega
      have h5 : -1 < s.fuse - 1 ∨ s.fuse - 1 = -1 + 0 ∨ 0 ≤ s.fuse - 1 := by omega
      go_enter Try.func23, Try.ntmps23
      go_wp2
      go_still_tail 14, (by kernel_rfl)
      change wpList _ _ _ _ _ w.drew
      go_wp2
      go_ret
      refine ⟨ret_int (by unfold tickN; rw [if_neg H0.out]), ?_, (((Chg.refl [g] w).setCell (p := ⟨g, 1, none⟩) (by simp) _).setCell (p := ⟨g, 0, none⟩) (by simp) _).drew⟩
      have := ((HH.out.set_ 1 (.int .i64 (s.fuse - 1))).set_ 0 (.int .i64 (s.steps + 1))).drew
      unfold ticked; rw [if_neg H0.out]
      simpa [dkCells, h1] using this
    · have hm : s.fuse = -1 := by have := H0.out; omega
      have HM := Lib.hid hm
      rw [hm] at c1
      clear hm h0' h1 o1 o2
      go_enter Try.func23, Try.ntmps23
      go_wp2
      go_still_tail 14, (by kernel_rfl)
      change wpList _ _ _ _ _ w.drew
      go_wp2
      go_ret
      refine ⟨ret_int (by unfold tickN; rw [if_neg H0.out]), ?_, (((Chg.refl [g] w).setCell (p := ⟨g, 1, none⟩) (by simp) _).setCell (p := ⟨g, 0, none⟩) (by simp) _).drew⟩
      have := ((HH.out.set_ 1 (.int .i64 (-1))).set_ 0 (.int .i64 (s.steps + 1))).drew
      unfold ticked; rw [if_neg H0.out]
      simpa [dkCells, HM.out] using this

theorem sectors_nil (w : World) : Calls Try.prog 15 #[.pointer none] w fun e w' => e = .returned (.int .i64 0) ∧ w = w' := by
  go_enter Try.func15, Try.ntmps15
  go_wp2
  go_ret
  exact ⟨rfl, rfl⟩
theorem sectors_any (g b l : Nat) (s : DS) (w : World) (h : DkAt w g b l s) : Calls Try.prog 15 #[.pointer (some ⟨g, 0, none⟩)] w fun e w' => e = .returned (.int .i64 s.last.length) ∧ w = w' := by
  obtain ⟨c0, c1, c2, c3, c4⟩ := h.c
  clear h
  go_enter Try.func15, Try.ntmps15
  go_wp2
  go_ret
  exact ⟨rfl, rfl⟩
theorem steps_nil (w : World) : Calls Try.prog 17 #[.pointer none] w fun e w' => e = .returned (.int .i64 0) ∧ w = w' := by
  go_enter Try.func17, Try.ntmps17
  go_wp2
  go_ret
  exact ⟨rfl, rfl⟩
theorem steps_any (g b l : Nat) (s : DS) (w : World) (h : DkAt w g b l s) : Calls Try.prog 17 #[.pointer (some ⟨g, 0, none⟩)] w fun e w' => e = .returned (.int .i64 s.steps) ∧ w = w' := by
  obtain ⟨c0, c1, c2, c3, c4⟩ := h.c
  clear h
  go_enter Try.func17, Try.ntmps17
  go_wp2
  go_ret
  exact ⟨rfl, rfl⟩
theorem down_nil (w : World) : Calls Try.prog 16 #[.pointer none] w fun e w' => e = .returned (.bool false) ∧ w = w' := by
  go_enter Try.func16, Try.ntmps16
  go_wp2
  go_ret
  exact ⟨rfl, rfl⟩
theorem down_any (g b l : Nat) (s : DS) (w : World) (h : DkAt w g b l s) : Calls Try.prog 16 #[.pointer (some ⟨g, 0, none⟩)] w fun e w' => e = .returned (.bool s.down) ∧ w = w' := by
  obtain ⟨c0, c1, c2, c3, c4⟩ := h.c
  clear h
  go_enter Try.func16, Try.ntmps16
  go_wp2_with (go_at_call 26; refine (gone_any _ s.down _ c2).mono ?_; rintro e w' ⟨rfl, rfl⟩)
  go_ret
  exact ⟨rfl, rfl⟩
theorem fuse_nil (n : Int) (w : World) : Calls Try.prog 14 #[.pointer none, .int .i64 n] w fun e w' => e = .returned (.tuple #[]) ∧ w = w' := by
  go_enter Try.func14, Try.ntmps14
  go_wp2
  go_end0
  exact ⟨rfl, rfl⟩
def fused (s : DS) (n : Int) : DS := { s with fuse := if n < -1 then -1 else n }
theorem fuse_any (g b l : Nat) (s : DS) (n : Int) (w : World) (h : DkAt w g b l s) (hn : -9223372036854775808 ≤ n ∧ n ≤ 9223372036854775807) : Calls Try.prog 14 #[.pointer (some ⟨g, 0, none⟩), .int .i64 n] w fun e w' => e = .returned (.tuple #[]) ∧ DkAt w' g b l (fused s n) ∧ Chg [g] w w' := by
  obtain ⟨c0, c1, c2, c3, c4⟩ := h.c
  obtain ⟨f0, f1, f2⟩ := h.f
  have hg := h.head.lt
  have HH := Lib.hid h
  obtain ⟨e1, e2, e3⟩ := h.ne
  clear h
  by_cases h1 : n < -1
  all_goals
    go_enter Try.func14, Try.ntmps14
    go_wp2
    go_end0
    refine ⟨rfl, HH.out.meter ((Chg.refl [g] w).setCell (p := ⟨g, 1, none⟩) (by simp) _) ?_ rfl rfl ?_, (Chg.refl [g] w).setCell (p := ⟨g, 1, none⟩) (by simp) _⟩
    · have := HH.out.head.set_ 1 (.int .i64 (if n < -1 then -1 else n))
      unfold fused dkCells
      unfold dkCells at this
      first
        | (rw [if_pos (c := n < -1) (by omega)] at this ⊢; simpa using this)
        | (rw [if_neg (c := n < -1) (by omega)] at this ⊢; simpa using this)
    · unfold fused; simp only; split <;> omega
theorem ticked_ok {w w' : World} {g b l : Nat} {s : DS} (h : DkAt w g b l s) (hb : Blk w' g 59 (dkCells (ticked s) b l)) (hc : Chg [g] w w') : DkAt w' g b l (ticked s) := by
  refine h.meter hc hb ?_ ?_ ?_
  · unfold ticked; split <;> rfl
  · unfold ticked; split <;> rfl
  · have := h.ok.fuse
    unfold ticked; split
    · simpa using this
    · simp only; split <;> omega
end Go.Proofs.Ytnbaamjdlgojaaa
