/- Parts of the proof: UnE1, UnE2, UnE3, UnE4, UnE5. -/
import Derived.Test.YtklmckbpbloonaaBC28
import Derived.Test.YtklmckbpbloonaaBC29
import Derived.DeepKeys
import Derived.Test.YtklmckbpbloonaaBC1
namespace Go.Proofs.Ytklmckbpbloonaa
open Go.RowKit

def hasE (es : List Edg) (x : Edg) : Bool := decide (x ∈ es)
theorem keyEd : Try.prog.keyTypeAt 3 39 = true := by kernel_rfl
def litE (e : Edg) : List Lit := [.int .u32 e.1, .int .u32 e.2.1, .int .u32 e.2.2]
theorem litE_inj {x y : Edg} (h : litE x = litE y) : x = y := by
  simp only [litE, List.cons.injEq, Lit.int.injEq, true_and, and_true] at h
  exact Prod.ext h.1 (Prod.ext h.2.1 h.2.2)
theorem cellsEd : Try.prog.cellsOf 39 = 3 := by kernel_rfl
theorem cellsU32 : Try.prog.cellsOf 31 = 1 := by kernel_rfl
theorem wf32 {x : Int} (h : 0 ≤ x ∧ x < 4294967296) : (Lit.int .u32 x).wf = true := by
  simp [Lit.wf, IntKind.min, IntKind.max, IntKind.bits, IntKind.signed]; omega
theorem keyLitsU32 {x : Int} (h : 0 ≤ x ∧ x < 4294967296) : Try.prog.keyLits 1 31 [Value.int .u32 x] = some [Lit.int .u32 x] := by
  unfold Program.keyLits
  rw [Try.underlying31]
  simp only [wf32 h, and_self, if_true]
set_option maxRecDepth 100000 in
theorem keyLitsE {x : Edg} (h : okE x) : Try.prog.keyLits 2 39 (edC x) = some (litE x) := by
  have h1 := keyLitsU32 h.1
  have h2 := keyLitsU32 h.2.1
  have h3 := keyLitsU32 h.2.2
  unfold Program.keyLits
  rw [Try.underlying39]
  have hl : (edC x).length = 3 := rfl
  simp only [hl, cellsEd]
  simp [edC, cellsU32, h1, h2, h3, litE]
theorem formE (x : Edg) : (edV x).formed Try.prog 39 = true := by
  unfold Value.formed edV
  rw [Try.underlying39, cellsEd]
  rfl
/-- '==' at two edges. -/
theorem equalE {x y : Edg} (h : okE x) (h' : okE y) (w : World) : (Op.equalIn 10000 39 (edV x) (edV y)).run Try.prog w = .ok (decide (x = y)) w := by
  obtain ⟨r, hr, hiff⟩ := run_equalIn_deep (P := Try.prog) 9997 3 39 keyEd w 2 2 (edV x) (edV y) (litE x) (litE y) (formE x) (formE y) (keyLitsE h) (keyLitsE h')
  have e : r = decide (x = y) := by
    rw [Bool.eq_iff_iff, hiff, decide_eq_true_iff]
    exact ⟨litE_inj, fun e => by rw [e]⟩
  rw [← e]; exact hr
def idxE (es : List Edg) (x : Edg) : Int := if x ∈ es then (es.idxOf x : Int) else -1
theorem idxE_miss {es : List Edg} {x : Edg} (h : ∀ j, j < es.length → es[j]? ≠ some x) : idxE es x = -1 := by
  unfold idxE
  rw [if_neg]
  intro hm
  obtain ⟨j, hj, e⟩ := List.getElem_of_mem hm
  exact h j hj (by rw [List.getElem?_eq_getElem hj, e])
theorem idxE_hit {es : List Edg} {x : Edg} {k : Nat} (hj : ∀ j, j < k → es[j]? ≠ some x) (hk : es[k]? = some x) : idxE es x = k := by
  have hm : x ∈ es := List.mem_of_getElem? hk
  have hkl := (List.getElem?_eq_some_iff.1 hk).1
  unfold idxE
  rw [if_pos hm]
  have hl := List.idxOf_lt_length_of_mem hm
  have e1 : es[es.idxOf x]? = some x := by rw [List.getElem?_eq_getElem hl]; simp
  have h1 : ¬ es.idxOf x < k := fun h => hj _ h e1
  have h2 : ¬ k < es.idxOf x := fun h => by
    have := List.not_of_lt_findIdx (p := (· == x)) (xs := es) (i := k) h
    rw [(List.getElem?_eq_some_iff.1 hk).2] at this
    simp at this
  omega
theorem hasE_idx (es : List Edg) (x : Edg) : decide (0 ≤ idxE es x) = hasE es x := by
  unfold hasE idxE
  by_cases h : x ∈ es
  · rw [if_pos h]; simp [h]
  · rw [if_neg h]; simp [h]
end Go.Proofs.Ytklmckbpbloonaa

namespace Go.Proofs.Ytklmckbpbloonaa
open Go.RowKit

set_option maxRecDepth 100000 in
theorem indexE_any (B : Nat) (A : Option Addr) (n c : Nat) (es : List Edg) (x : Edg) (w : World) (h : RdE w B A n c es) (hx : okE x) (hB : B ≤ w.heap.size) :
    Calls Try.prog 120 #[.slice A n c, edV x] w fun e w' => e = .returned (.int .i64 (idxE es x)) ∧ Below w.heap.size w w' := by
  have hl := h.len
  obtain ⟨hn, hc⟩ := h.bd
  obtain ⟨w1, hw1⟩ : ∃ w1, w1 = w.alloc (.cells (edC x).toArray 39) := ⟨_, rfl⟩
  have HB1 : Hid (Below w.heap.size w w1) := by show Below _ _ _; rw [hw1]; exact (Below.refl w.heap.size w).alloc (Nat.le_refl _) _
  have HX1 : Hid (Blk w1 w.heap.size 39 (edC x).toArray) := by show Blk _ _ _ _; rw [hw1]; exact Blk.new w _ _
  have HR1 := Lib.hid (h.below (HB1.out.mono hB))
  have HXO := Lib.hid hx
  have HL := Lib.hid hl
  have hs1 : w1.heap.size = w.heap.size + 1 := by rw [hw1]; simp
  have HW1 := Lib.hid hw1
  have HS1 := Lib.hid hs1
  clear h hx hl hw1 hs1
  rw [show edV x = .agg #[.int .u32 x.1, .int .u32 x.2.1, .int .u32 x.2.2] from rfl]
  go_enter Try.func120, Try.ntmps120
  go_wp2_with fail
  rw [show w.alloc (.cells #[.int .u32 x.1, .int .u32 x.2.1, .int .u32 x.2.2] 39) = w1 from HW1.out.symm]
  go_loopw [5, 8] (fun _ s8 wr => ∃ k : Nat, k ≤ n ∧ s8 = .int .i64 k ∧ Below (w.heap.size + 1) w1 wr ∧ Hid (∀ j, j < k → es[j]? ≠ some x)) (fun _ s8 _ => n - (intOf s8).toNat)
  case atStart => exact ⟨0, by omega, rfl, Below.refl _ _, fun j hj => by omega⟩
  case round =>
    obtain ⟨k, hk, rfl, hB1, hM⟩ := hrel
    by_cases hlt : k < n
    · obtain ⟨ad, y, rfl, hbl, hy, hyo, hc1, hc2, hc3⟩ := HR1.out.at_ hlt
      have hbox : ∀ W, Below (w.heap.size + 1) w1 W → W.cell? ⟨w.heap.size, 0, none⟩ = some (.int .u32 x.1) ∧ W.cell? ⟨w.heap.size, 1, none⟩ = some (.int .u32 x.2.1) ∧ W.cell? ⟨w.heap.size, 2, none⟩ = some (.int .u32 x.2.2) := fun W hW => by
        have := HX1.out.below hW (by omega)
        exact ⟨this.cell 0, this.cell 1, this.cell 2⟩
      have hrow : ∀ W, Below (w.heap.size + 1) w1 W → W.cell? (ad.add (k * 3)) = some (.int .u32 y.1) ∧ W.cell? ⟨(ad.add (k * 3)).block, (ad.add (k * 3)).off + 1, none⟩ = some (.int .u32 y.2.1) ∧ W.cell? ⟨(ad.add (k * 3)).block, (ad.add (k * 3)).off + 2, none⟩ = some (.int .u32 y.2.2) := fun W hW => by
        have hbk : (ad.add (k * 3)).block = ad.block := block_of_add _ _
        exact ⟨(hW.cell (by rw [hbk]; omega)).trans hc1, (hW.cell (by show (ad.add (k * 3)).block < _; rw [hbk]; omega)).trans hc2, (hW.cell (by show (ad.add (k * 3)).block < _; rw [hbk]; omega)).trans hc3⟩
      have HY := Lib.hid hy
      have heq0 := fun W => equalE HXO.out hyo W
      clear hy hc1 hc2 hc3
      have hB := hB1
      by_cases e : x = y
      · have heq : ∀ W, (Op.equalIn 10000 39 (edV x) (edV y)).run Try.prog W = .ok true W := fun W => by rw [heq0, decide_eq_true e]
        have HE := Lib.hid e
        clear heq0 e
        go_wp2_with fail
        refine wp_region_held_drew (S := fun W => Below (w.heap.size + 1) w1 W) (by kernel_rfl) hB.drew (fun hHeld => ?_)
        refine held_take 0 11 (edV x) (by simp only [List.getElem?_toArray, List.getElem?_cons_zero]; rfl) rfl rfl (by kernel_rfl) (by kernel_rfl) (by kernel_rfl) (fun _ _ _ _ h => h) (by intro W hW; obtain ⟨z1, z2, z3⟩ := hbox W hW; unfold edV edC; go_simp) hHeld ?_
        simp only [List.setIfInBounds_toArray, List.set_cons_zero, List.set_cons_succ]
        refine held_take 1 12 (.slice (some ad) n c) (by simp only [List.getElem?_toArray, List.getElem?_cons_succ, List.getElem?_cons_zero]; rfl) rfl rfl (by kernel_rfl) (by kernel_rfl) (by kernel_rfl) (fun _ _ _ _ h => h) (by intro W hW; go_simp) hHeld ?_
        simp only [List.setIfInBounds_toArray, List.set_cons_zero, List.set_cons_succ]
        refine held_take 2 13 (.int .i64 k) (by simp only [List.getElem?_toArray, List.getElem?_cons_succ, List.getElem?_cons_zero]; rfl) rfl rfl (by kernel_rfl) (by kernel_rfl) (by kernel_rfl) (fun _ _ _ _ h => h) (by intro W hW; go_simp) hHeld ?_
        simp only [List.setIfInBounds_toArray, List.set_cons_zero, List.set_cons_succ]
        refine held_take 3 14 (.pointer (some (ad.add (k * 3)))) (by simp only [List.getElem?_toArray, List.getElem?_cons_succ, List.getElem?_cons_zero]; rfl) rfl rfl (by kernel_rfl) (by kernel_rfl) (by kernel_rfl) (fun _ _ _ _ h => h) (by intro W hW; go_simp) hHeld ?_
        simp only [List.setIfInBounds_toArray, List.set_cons_zero, List.set_cons_succ]
        refine held_take 4 15 (edV y) (by simp only [List.getElem?_toArray, List.getElem?_cons_succ, List.getElem?_cons_zero]; rfl) rfl rfl (by kernel_rfl) (by kernel_rfl) (by kernel_rfl) (fun _ _ _ _ h => h) (by intro W hW; obtain ⟨z1, z2, z3⟩ := hrow W hW; unfold edV edC; go_simp) hHeld ?_
        simp only [List.setIfInBounds_toArray, List.set_cons_zero, List.set_cons_succ]
        refine held_take 5 16 (.bool true) (by simp only [List.getElem?_toArray, List.getElem?_cons_succ, List.getElem?_cons_zero]; rfl) rfl rfl (by kernel_rfl) (by kernel_rfl) (by kernel_rfl) (fun _ _ _ _ h => h) (by intro W hW; unfold edV edC; go_simp; simp [HE.out]) hHeld ?_
        simp only [List.setIfInBounds_toArray, List.set_cons_zero, List.set_cons_succ]
        refine wpAnyH_done (by kernel_rfl) ?_ _
        go_wp2_with fail
        go_ret
        refine ⟨ret_int ?_, HB1.out.trans (hHeld.mono (by omega))⟩
        exact (idxE_hit hM.out (by rw [HE.out]; exact HY.out)).symm
      · have heq : ∀ W, (Op.equalIn 10000 39 (edV x) (edV y)).run Try.prog W = .ok false W := fun W => by rw [heq0, decide_eq_false e]
        have HE := Lib.hid e
        clear heq0 e
        go_wp2_with fail
        refine wp_region_held_drew (S := fun W => Below (w.heap.size + 1) w1 W) (by kernel_rfl) hB.drew (fun hHeld => ?_)
        refine held_take 0 11 (edV x) (by simp only [List.getElem?_toArray, List.getElem?_cons_zero]; rfl) rfl rfl (by kernel_rfl) (by kernel_rfl) (by kernel_rfl) (fun _ _ _ _ h => h) (by intro W hW; obtain ⟨z1, z2, z3⟩ := hbox W hW; unfold edV edC; go_simp) hHeld ?_
        simp only [List.setIfInBounds_toArray, List.set_cons_zero, List.set_cons_succ]
        refine held_take 1 12 (.slice (some ad) n c) (by simp only [List.getElem?_toArray, List.getElem?_cons_succ, List.getElem?_cons_zero]; rfl) rfl rfl (by kernel_rfl) (by kernel_rfl) (by kernel_rfl) (fun _ _ _ _ h => h) (by intro W hW; go_simp) hHeld ?_
        simp only [List.setIfInBounds_toArray, List.set_cons_zero, List.set_cons_succ]
        refine held_take 2 13 (.int .i64 k) (by simp only [List.getElem?_toArray, List.getElem?_cons_succ, List.getElem?_cons_zero]; rfl) rfl rfl (by kernel_rfl) (by kernel_rfl) (by kernel_rfl) (fun _ _ _ _ h => h) (by intro W hW; go_simp) hHeld ?_
        simp only [List.setIfInBounds_toArray, List.set_cons_zero, List.set_cons_succ]
        refine held_take 3 14 (.pointer (some (ad.add (k * 3)))) (by simp only [List.getElem?_toArray, List.getElem?_cons_succ, List.getElem?_cons_zero]; rfl) rfl rfl (by kernel_rfl) (by kernel_rfl) (by kernel_rfl) (fun _ _ _ _ h => h) (by intro W hW; go_simp) hHeld ?_
        simp only [List.setIfInBounds_toArray, List.set_cons_zero, List.set_cons_succ]
        refine held_take 4 15 (edV y) (by simp only [List.getElem?_toArray, List.getElem?_cons_succ, List.getElem?_cons_zero]; rfl) rfl rfl (by kernel_rfl) (by kernel_rfl) (by kernel_rfl) (fun _ _ _ _ h => h) (by intro W hW; obtain ⟨z1, z2, z3⟩ := hrow W hW; unfold edV edC; go_simp) hHeld ?_
        simp only [List.setIfInBounds_toArray, List.set_cons_zero, List.set_cons_succ]
        refine held_take 5 16 (.bool false) (by simp only [List.getElem?_toArray, List.getElem?_cons_succ, List.getElem?_cons_zero]; rfl) rfl rfl (by kernel_rfl) (by kernel_rfl) (by kernel_rfl) (fun _ _ _ _ h => h) (by intro W hW; unfold edV edC; go_simp; exact fun h1 h2 h3 => HE.out (Prod.ext h1 (Prod.ext h2 h3))) hHeld ?_
        simp only [List.setIfInBounds_toArray, List.set_cons_zero, List.set_cons_succ]
        refine wpAnyH_done (by kernel_rfl) ?_ _
        go_wp2_with fail
        go_roundw
        case rel =>
          refine ⟨k + 1, by omega, by go_num, hHeld, fun j hj e => ?_⟩
          by_cases ejk : j = k
          · subst ejk
            rw [HY.out] at e
            exact HE.out (Option.some.inj e).symm
          · exact hM.out j (by omega) e
        case measure => simp [intOf]; omega
    · obtain rfl : k = n := by omega
      have hd : decide ((k : Int) < (k : Int)) = false := by simp
      go_wp2_with fail
      go_ret
      exact ⟨ret_int (idxE_miss (by rw [HL.out]; exact hM.out)).symm, HB1.out.trans (hB1.mono (by omega))⟩
end Go.Proofs.Ytklmckbpbloonaa

namespace Go.Proofs.Ytklmckbpbloonaa
open Go.RowKit

theorem edV_lit (x : Edg) : (Value.agg #[.int .u32 x.1, .int .u32 x.2.1, .int .u32 x.2.2]) = edV x := rfl
set_option maxRecDepth 100000 in
theorem containsE_any (B : Nat) (A : Option Addr) (n c : Nat) (es : List Edg) (x : Edg) (w : World) (h : RdE w B A n c es) (hx : okE x) (hB : B ≤ w.heap.size) :
    Calls Try.prog 102 #[.slice A n c, edV x] w fun e w' => e = .returned (.bool (hasE es x)) ∧ Below w.heap.size w w' := by
  have hb1 := (Below.refl w.heap.size w).alloc (Nat.le_refl _) (.cells #[.int .u32 x.1, .int .u32 x.2.1, .int .u32 x.2.2] 39)
  have hix := indexE_any B A n c es x _ (h.below (hb1.mono hB)) hx (by simp; omega)
  rw [← edV_lit] at hix ⊢
  have HB1 := Lib.hid hb1
  clear hb1
  go_enter Try.func102, Try.ntmps102
  go_wp2_with (go_at_call 120; refine hix.mono ?_; rintro e w2 ⟨rfl, B2⟩)
  go_ret
  exact ⟨ret_bool (by rw [← hasE_idx]), HB1.out.trans (B2.mono (by simp))⟩
set_option maxRecDepth 100000 in
theorem hasE1_any (B : Nat) (A : Option Addr) (n c : Nat) (es : List Edg) (x : Edg) (w : World) (h : RdE w B A n c es) (hx : okE x) (hB : B ≤ w.heap.size) :
    Calls Try.prog 101 #[.slice A n c, edV x] w fun e w' => e = .returned (.bool (hasE es x)) ∧ Below w.heap.size w w' := by
  have hb1 := (Below.refl w.heap.size w).alloc (Nat.le_refl _) (.cells #[.int .u32 x.1, .int .u32 x.2.1, .int .u32 x.2.2] 39)
  have hix := containsE_any B A n c es x _ (h.below (hb1.mono hB)) hx (by simp; omega)
  rw [← edV_lit] at hix ⊢
  have HB1 := Lib.hid hb1
  clear hb1
  go_enter Try.func101, Try.ntmps101
  go_wp2_with (go_at_call 102; refine hix.mono ?_; rintro e w2 ⟨rfl, B2⟩)
  go_ret
  exact ⟨rfl, HB1.out.trans (B2.mono (by simp))⟩
end Go.Proofs.Ytklmckbpbloonaa

namespace Go.Proofs.Ytklmckbpbloonaa
open Go.RowKit

def fltE (es : List Edg) (p : Edg → Bool) (k : Nat) : List Edg := (es.take k).filter p
def fltEN (es : List Edg) (p : Edg → Bool) (k : Nat) : Nat := (fltE es p k).length
theorem takeE_at {es : List Edg} {k : Nat} {x : Edg} (h : es[k]? = some x) : es.take (k + 1) = es.take k ++ [x] := by
  rw [List.take_add_one, h]; rfl
theorem fltE_succ {es : List Edg} {p : Edg → Bool} {k : Nat} {x : Edg} (h : es[k]? = some x) : fltE es p (k + 1) = fltE es p k ++ if p x then [x] else [] := by
  unfold fltE; rw [takeE_at h, List.filter_append]
  congr 1
  cases hp : p x <;> simp [hp]
theorem fltEN_succ {es : List Edg} {p : Edg → Bool} {k : Nat} {x : Edg} (h : es[k]? = some x) : fltEN es p (k + 1) = fltEN es p k + if p x then 1 else 0 := by
  unfold fltEN; rw [fltE_succ h]; cases hp : p x <;> simp
theorem fltEN_le (es : List Edg) (p : Edg → Bool) (k : Nat) : fltEN es p k ≤ k := by
  have h1 := List.length_filter_le p (es.take k)
  have h2 := List.length_take_le k es
  unfold fltEN fltE; omega
theorem fltE_all (es : List Edg) (p : Edg → Bool) {n : Nat} (hn : es.length = n) : fltE es p n = es.filter p := by subst hn; unfold fltE; rw [List.take_length]
def pAE (base theirs : List Edg) (x : Edg) : Bool := hasE theirs x || !hasE base x
def pBE (base ours : List Edg) (x : Edg) : Bool := !hasE ours x && !hasE base x
def allE (base ours theirs : List Edg) : List Edg := ours.filter (pAE base theirs) ++ theirs.filter (pBE base ours)
def allETo (base ours theirs : List Edg) (n m : Nat) : List Edg := fltE ours (pAE base theirs) n ++ fltE theirs (pBE base ours) m
def allETN (base ours theirs : List Edg) (n m : Nat) : Nat := fltEN ours (pAE base theirs) n + fltEN theirs (pBE base ours) m
theorem allETo_all (base ours theirs : List Edg) {n m : Nat} (hn : ours.length = n) (hm : theirs.length = m) : allETo base ours theirs n m = allE base ours theirs := by
  unfold allETo allE; rw [fltE_all _ _ hn, fltE_all _ _ hm]
theorem allETo_zero (base ours theirs : List Edg) (n : Nat) : allETo base ours theirs n 0 = fltE ours (pAE base theirs) n := by simp [allETo, fltE]
theorem allETN_zero (base ours theirs : List Edg) (n : Nat) : allETN base ours theirs n 0 = fltEN ours (pAE base theirs) n := by simp [allETN, fltEN, fltE]
theorem allETo_len (base ours theirs : List Edg) (n m : Nat) : (allETo base ours theirs n m).length = allETN base ours theirs n m := by simp [allETo, allETN, fltEN]
set_option maxRecDepth 100000 in
set_option maxHeartbeats 4000000 in
theorem allE_any (B : Nat) (Ab Ao At : Option Addr) (nb cb no co nt ct : Nat) (base ours theirs : List Edg) (w : World) (hb : RdE w B Ab nb cb base) (ho : RdE w B Ao no co ours) (ht : RdE w B At nt ct theirs) (hno : no ≤ 1000000) (hnt : nt ≤ 1000000) (hB : B ≤ w.heap.size) :
    Calls Try.prog 69 #[.agg #[.slice Ab nb cb, .slice Ao no co, .slice At nt ct]] w fun e w' => ∃ r A c, e = .returned (.slice A (allE base ours theirs).length c) ∧ OwnE w' r A (allE base ours theirs).length c (allE base ours theirs) ∧ Below w.heap.size w w' ∧ (∀ g, r = some g → w.heap.size ≤ g) := by
  obtain ⟨hno', hco⟩ := ho.bd
  obtain ⟨hnt', hct⟩ := ht.bd
  have HLo := Lib.hid ho.len
  have HLt := Lib.hid ht.len
  have hX0 := Blk.new w 86 #[.slice Ab nb cb, .slice Ao no co, .slice At nt ct]
  have HB0 := Lib.hid ((Below.refl w.heap.size w).alloc (Nat.le_refl _) (.cells #[.slice Ab nb cb, .slice Ao no co, .slice At nt ct] 86))
  go_enter Try.func69, Try.ntmps69
  go_wp2_with fail
  go_loopw [4, 6, 12] (fun o _ i wr => ∃ (k : Nat) (r : Option Nat) (A : Option Addr) (c : Nat), k ≤ no ∧ i = .int .i64 k ∧ o = .slice A (fltEN ours (pAE base theirs) k) c ∧ OwnE wr r A (fltEN ours (pAE base theirs) k) c (fltE ours (pAE base theirs) k) ∧ (∀ g, r = some g → w.heap.size < g) ∧ Below w.heap.size w wr ∧ Blk wr w.heap.size 86 #[.slice Ab nb cb, .slice Ao no co, .slice At nt ct]) (fun _ _ i _ => no - (intOf i).toNat)
  case atStart => exact ⟨0, none, none, 0, by omega, rfl, by simp [fltEN, fltE], by simpa [fltEN, fltE] using OwnE.nil_ _ _, by simp, HB0.out, hX0⟩
  case round =>
    clear hX0 HB0
    obtain ⟨k, r, A, c, hk, rfl, rfl, hown, hr, hbr, hX⟩ := hrel
    by_cases hlt : k < no
    · have hqo := ho.below (hbr.mono hB)
      obtain ⟨ad, x, rfl, hbl, hx, hxb, hc1, hc2, hc3⟩ := hqo.at_ hlt
      have HX := Lib.hid hx
      have HO := Lib.hid hown
      have HBR := Lib.hid hbr
      have hsz := hX.lt
      have HXB := Lib.hid (hX.alloc (.cells #[.int .u32 x.1, .int .u32 x.2.1, .int .u32 x.2.2] 39))
      obtain ⟨hx0, hx1, hx2⟩ := hX.c3
      clear hx hown hqo hbr
      have HN : Hid (fltEN ours (pAE base theirs) (k + 1) = fltEN ours (pAE base theirs) k + if pAE base theirs x then 1 else 0) := fltEN_succ HX.out
      have HT : Hid (fltE ours (pAE base theirs) (k + 1) = fltE ours (pAE base theirs) k ++ if pAE base theirs x then [x] else []) := fltE_succ HX.out
      have hle := fltEN_le ours (pAE base theirs) k
      have HB1 := Lib.hid (HBR.out.alloc HBR.out.size (.cells #[.int .u32 x.1, .int .u32 x.2.1, .int .u32 x.2.2] 39))
      have HZ := Lib.hid (Blk.new wr 39 #[.int .u32 x.1, .int .u32 x.2.1, .int .u32 x.2.2])
      go_wp2_with fail
      rw [edV_lit]
      refine (hasE1_any B _ _ _ theirs x _ (ht.below (HB1.out.mono hB)) hxb (by have := HB1.out.size; omega)).mono ?_
      rintro e w2 ⟨rfl, B2⟩
      have BXw2 := HZ.out.below B2 (by simp)
      have OXw2 := (HO.out.alloc (.cells #[.int .u32 x.1, .int .u32 x.2.1, .int .u32 x.2.2] 39)).below B2 (HO.out.alloc (.cells #[.int .u32 x.1, .int .u32 x.2.1, .int .u32 x.2.2] 39)).lt
      have HXw2 := HXB.out.below B2 HXB.out.lt
      have BRw2 := HB1.out.trans (B2.mono HB1.out.size)
      clear B2
      cases h1 : hasE theirs x
      · obtain ⟨v0, v1, v2⟩ := HXw2.c3
        obtain ⟨b0, b1, b2⟩ := BXw2.c3
        have H1 := Lib.hid h1
        clear h1
        go_wp2_with fail
        rw [edV_lit]
        refine (hasE1_any B _ _ _ base x _ (hb.below (BRw2.mono hB)) hxb (by have := BRw2.size; omega)).mono ?_
        rintro e w3 ⟨rfl, B3⟩
        have BXw3 := BXw2.below B3 BXw2.lt
        have OXw3 := OXw2.below B3 OXw2.lt
        have HXw3 := HXw2.below B3 HXw2.lt
        have BRw3 := BRw2.trans (B3.mono BRw2.size)
        clear B3
        cases h2 : hasE base x
        · have H2 := Lib.hid h2
          clear h2
          have HY := Lib.hid (BXw3.alloc (.cells #[.int .u32 x.1, .int .u32 x.2.1, .int .u32 x.2.2] 39))
          have HO3 := Lib.hid (OXw3.alloc (.cells #[.int .u32 x.1, .int .u32 x.2.1, .int .u32 x.2.2] 39))
          have HH3 := Lib.hid (HXw3.alloc (.cells #[.int .u32 x.1, .int .u32 x.2.1, .int .u32 x.2.2] 39))
          have HB3 := Lib.hid (BRw3.alloc BRw3.size (.cells #[.int .u32 x.1, .int .u32 x.2.1, .int .u32 x.2.2] 39))
          obtain ⟨y0, y1, y2⟩ := BXw3.c3
          go_wp2_with (first
            | (at_builtin; refine appE1 rfl (.tmp 29) (.tmp 31) rfl _ r _ _ c (fltE ours (pAE base theirs) k) rfl HO3.out w3.heap.size x rfl (Blk.new _ _ _) hxb (by omega) ?_; intro r3 A3 c3 w5 m1 m2 m3))
          go_roundw
          case rel =>
            have hp : pAE base theirs x = true := by simp [pAE, H1.out, H2.out]
            have hr3 : ∀ g, r3 = some g → w.heap.size < g := fun g e => by
              rcases m3 with h3 | h3
              · exact hr g (by rw [← h3, e])
              · have := h3 g e; have := HB3.out.size; have := HH3.out.lt; simp at *; omega
            have hN := HN.out
            have hT := HT.out
            rw [hp] at hN hT
            simp only [if_true] at hN hT
            exact ⟨k + 1, r3, A3, c3, by omega, by go_num, by rw [hN], by rw [hN, hT]; exact m1, hr3, HB3.out.grown m2 HB3.out.size (fun g e => by have := hr g e; omega), HH3.out.grown m2 (fun e => by have := hr _ e.symm; omega)⟩
          case measure => simp [intOf]; omega
        · have H2 := Lib.hid h2
          clear h2
          go_wp2_with fail
          go_roundw
          case rel =>
            have hp : pAE base theirs x = false := by simp [pAE, H1.out, H2.out]
            have hN := HN.out
            have hT := HT.out
            rw [hp] at hN hT
            simp only [Bool.false_eq_true, if_false, Nat.add_zero, List.append_nil] at hN hT
            exact ⟨k + 1, r, A, c, by omega, by go_num, by rw [hN], by rw [hN, hT]; exact OXw3, hr, BRw3, HXw3⟩
          case measure => simp [intOf]; omega
      · have H1 := Lib.hid h1
        clear h1
        have HY := Lib.hid (BXw2.alloc (.cells #[.int .u32 x.1, .int .u32 x.2.1, .int .u32 x.2.2] 39))
        have HO3 := Lib.hid (OXw2.alloc (.cells #[.int .u32 x.1, .int .u32 x.2.1, .int .u32 x.2.2] 39))
        have HH3 := Lib.hid (HXw2.alloc (.cells #[.int .u32 x.1, .int .u32 x.2.1, .int .u32 x.2.2] 39))
        have HB3 := Lib.hid (BRw2.alloc BRw2.size (.cells #[.int .u32 x.1, .int .u32 x.2.1, .int .u32 x.2.2] 39))
        obtain ⟨y0, y1, y2⟩ := BXw2.c3
        go_wp2_with (first
          | (at_builtin; refine appE1 rfl (.tmp 29) (.tmp 31) rfl _ r _ _ c (fltE ours (pAE base theirs) k) rfl HO3.out w2.heap.size x rfl (Blk.new _ _ _) hxb (by omega) ?_; intro r3 A3 c3 w5 m1 m2 m3))
        go_roundw
        case rel =>
          have hp : pAE base theirs x = true := by simp [pAE, H1.out]
          have hr3 : ∀ g, r3 = some g → w.heap.size < g := fun g e => by
            rcases m3 with h3 | h3
            · exact hr g (by rw [← h3, e])
            · have := h3 g e; have := HB3.out.size; have := HH3.out.lt; simp at *; omega
          have hN := HN.out
          have hT := HT.out
          rw [hp] at hN hT
          simp only [if_true] at hN hT
          exact ⟨k + 1, r3, A3, c3, by omega, by go_num, by rw [hN], by rw [hN, hT]; exact m1, hr3, HB3.out.grown m2 HB3.out.size (fun g e => by have := hr g e; omega), HH3.out.grown m2 (fun e => by have := hr _ e.symm; omega)⟩
        case measure => simp [intOf]; omega
    · obtain rfl : k = no := by omega
      obtain ⟨wo, rfl⟩ : ∃ wo : World, wo = wr := ⟨_, rfl⟩
      rw [← allETN_zero base ours theirs] at hown ⊢
      rw [← allETo_zero] at hown
      have HOW := Lib.hid hown
      obtain ⟨hx0, hx1, hx2⟩ := hX.c3
      clear hown
      go_wp2_with fail
      go_loopw [4, 8, 37] (fun o _ i wr => ∃ (m : Nat) (r : Option Nat) (A : Option Addr) (c : Nat), m ≤ nt ∧ i = .int .i64 m ∧ o = .slice A (allETN base ours theirs k m) c ∧ OwnE wr r A (allETN base ours theirs k m) c (allETo base ours theirs k m) ∧ (∀ g, r = some g → w.heap.size < g) ∧ Below w.heap.size w wr ∧ Blk wr w.heap.size 86 #[.slice Ab nb cb, .slice Ao k co, .slice At nt ct]) (fun _ _ i _ => nt - (intOf i).toNat)
      case atStart => exact ⟨0, r, A, c, by omega, rfl, rfl, HOW.out, hr, hbr, hX⟩
      case round =>
        clear HOW hr hbr hX hx0 hx1 hx2
        obtain ⟨m, r, A, c, hm, rfl, rfl, hown, hr, hbr, hX⟩ := hrel
        have hle1 := fltEN_le ours (pAE base theirs) k
        have hle2 := fltEN_le theirs (pBE base ours) m
        have hle : allETN base ours theirs k m ≤ 2000000 := by unfold allETN; omega
        clear hle1 hle2
        by_cases hlt2 : m < nt
        · have hqt := ht.below (hbr.mono hB)
          obtain ⟨ad, x, rfl, hbl, hx, hxb, hc1, hc2, hc3⟩ := hqt.at_ hlt2
          have HX := Lib.hid hx
          have HO := Lib.hid hown
          have HBR := Lib.hid hbr
          have hsz := hX.lt
          have HXB := Lib.hid (hX.alloc (.cells #[.int .u32 x.1, .int .u32 x.2.1, .int .u32 x.2.2] 39))
          obtain ⟨hx0, hx1, hx2⟩ := hX.c3
          clear hx hown hqt hbr
          have HN : Hid (allETN base ours theirs k (m + 1) = allETN base ours theirs k m + if pBE base ours x then 1 else 0) := by
            show _ = _; unfold allETN; rw [fltEN_succ HX.out]; omega
          have HT : Hid (allETo base ours theirs k (m + 1) = allETo base ours theirs k m ++ if pBE base ours x then [x] else []) := by
            show _ = _; unfold allETo; rw [fltE_succ HX.out]; simp
          have HB1 := Lib.hid (HBR.out.alloc HBR.out.size (.cells #[.int .u32 x.1, .int .u32 x.2.1, .int .u32 x.2.2] 39))
          have HZ := Lib.hid (Blk.new wr 39 #[.int .u32 x.1, .int .u32 x.2.1, .int .u32 x.2.2])
          go_wp2_with fail
          rw [edV_lit]
          refine (hasE1_any B _ _ _ ours x _ (ho.below (HB1.out.mono hB)) hxb (by have := HB1.out.size; omega)).mono ?_
          rintro e w2 ⟨rfl, B2⟩
          have BXw2 := HZ.out.below B2 (by simp)
          have OXw2 := (HO.out.alloc (.cells #[.int .u32 x.1, .int .u32 x.2.1, .int .u32 x.2.2] 39)).below B2 (HO.out.alloc (.cells #[.int .u32 x.1, .int .u32 x.2.1, .int .u32 x.2.2] 39)).lt
          have HXw2 := HXB.out.below B2 HXB.out.lt
          have BRw2 := HB1.out.trans (B2.mono HB1.out.size)
          clear B2
          cases h1 : hasE ours x
          · obtain ⟨v0, v1, v2⟩ := HXw2.c3
            obtain ⟨b0, b1, b2⟩ := BXw2.c3
            have H1 := Lib.hid h1
            clear h1
            go_wp2_with fail
            rw [edV_lit]
            refine (hasE1_any B _ _ _ base x _ (hb.below (BRw2.mono hB)) hxb (by have := BRw2.size; omega)).mono ?_
            rintro e w3 ⟨rfl, B3⟩
            have BXw3 := BXw2.below B3 BXw2.lt
            have OXw3 := OXw2.below B3 OXw2.lt
            have HXw3 := HXw2.below B3 HXw2.lt
            have BRw3 := BRw2.trans (B3.mono BRw2.size)
            clear B3
            cases h2 : hasE base x
            · have H2 := Lib.hid h2
              clear h2
              have HY := Lib.hid (BXw3.alloc (.cells #[.int .u32 x.1, .int .u32 x.2.1, .int .u32 x.2.2] 39))
              have HO3 := Lib.hid (OXw3.alloc (.cells #[.int .u32 x.1, .int .u32 x.2.1, .int .u32 x.2.2] 39))
              have HH3 := Lib.hid (HXw3.alloc (.cells #[.int .u32 x.1, .int .u32 x.2.1, .int .u32 x.2.2] 39))
              have HB3 := Lib.hid (BRw3.alloc BRw3.size (.cells #[.int .u32 x.1, .int .u32 x.2.1, .int .u32 x.2.2] 39))
              obtain ⟨y0, y1, y2⟩ := BXw3.c3
              go_wp2_with (first
                | (at_builtin; refine appE1 rfl (.tmp 55) (.tmp 57) rfl _ r _ _ c (allETo base ours theirs k m) rfl HO3.out w3.heap.size x rfl (Blk.new _ _ _) hxb (by omega) ?_; intro r3 A3 c3 w5 m1 m2 m3))
              go_roundw
              case rel =>
                have hp : pBE base ours x = true := by simp [pBE, H1.out, H2.out]
                have hr3 : ∀ g, r3 = some g → w.heap.size < g := fun g e => by
                  rcases m3 with h3 | h3
                  · exact hr g (by rw [← h3, e])
                  · have := h3 g e; have := HB3.out.size; have := HH3.out.lt; simp at *; omega
                have hN := HN.out
                have hT := HT.out
                rw [hp] at hN hT
                simp only [if_true] at hN hT
                exact ⟨m + 1, r3, A3, c3, by omega, by go_num, by rw [hN], by rw [hN, hT]; exact m1, hr3, HB3.out.grown m2 HB3.out.size (fun g e => by have := hr g e; omega), HH3.out.grown m2 (fun e => by have := hr _ e.symm; omega)⟩
              case measure => simp [intOf]; omega
            · have H2 := Lib.hid h2
              clear h2
              go_wp2_with fail
              go_roundw
              case rel =>
                have hp : pBE base ours x = false := by simp [pBE, H1.out, H2.out]
                have hN := HN.out
                have hT := HT.out
                rw [hp] at hN hT
                simp only [Bool.false_eq_true, if_false, Nat.add_zero, List.append_nil] at hN hT
                exact ⟨m + 1, r, A, c, by omega, by go_num, by rw [hN], by rw [hN, hT]; exact OXw3, hr, BRw3, HXw3⟩
              case measure => simp [intOf]; omega
          · have H1 := Lib.hid h1
            clear h1
            go_wp2_with fail
            go_roundw
            case rel =>
              have hp : pBE base ours x = false := by simp [pBE, H1.out]
              have hN := HN.out
              have hT := HT.out
              rw [hp] at hN hT
              simp only [Bool.false_eq_true, if_false, Nat.add_zero, List.append_nil] at hN hT
              exact ⟨m + 1, r, A, c, by omega, by go_num, by rw [hN], by rw [hN, hT]; exact OXw2, hr, BRw2, HXw2⟩
            case measure => simp [intOf]; omega
        · obtain rfl : m = nt := by omega
          go_wp2_with fail
          go_ret
          have e1 := allETo_all base ours theirs HLo.out HLt.out
          have e2 := allETo_len base ours theirs k m
          rw [e1] at e2
          rw [e1, ← e2] at hown
          exact ⟨r, A, c, by rw [e2]; rfl, hown, hbr, fun g e => by have := hr g e; omega⟩
end Go.Proofs.Ytklmckbpbloonaa

namespace Go.Proofs.Ytklmckbpbloonaa
open Go.RowKit

def idsTo (es : List Edg) (k : Nat) : List Int := (es.take k).map Prod.fst
/-- The least number that stands twice among the first k. -/
def clashTo (es : List Edg) : Nat → Int
  | 0 => 0
  | k + 1 => if decide (K es k ∈ idsTo es k) && (decide (clashTo es k = 0) || decide (K es k < clashTo es k)) then K es k else clashTo es k
theorem idsTo_succ {es : List Edg} {k : Nat} {x : Edg} (h : es[k]? = some x) : idsTo es (k + 1) = idsTo es k ++ [x.1] := by
  unfold idsTo; rw [takeE_at h]; simp
theorem clashTo_ok {es : List Edg} (h : edgs es) : ∀ k, 0 ≤ clashTo es k ∧ clashTo es k < 4294967296
  | 0 => ⟨Int.le_refl _, by unfold clashTo; omega⟩
  | k + 1 => by
    unfold clashTo
    split
    · unfold K
      cases e : es[k]? with
      | none => simp
      | some x => exact (h x (List.mem_of_getElem? e)).1
    · exact clashTo_ok h k
set_option maxRecDepth 100000 in
theorem zeroBo (w : World) : (zeroValue 4).run Try.prog w = .ok (.bool false) w := by kernel_rfl
set_option maxRecDepth 100000 in
set_option maxHeartbeats 1000000 in
theorem clash_any (B : Nat) (A : Option Addr) (n c : Nat) (es : List Edg) (w : World) (h : RdE w B A n c es) (hB : B ≤ w.heap.size) (hn : n ≤ 1000000) :
    Calls Try.prog 70 #[.slice A n c] w fun e w' => e = .returned (.int .u32 (clashTo es n)) ∧ Below w.heap.size w w' := by
  obtain ⟨hn', hc⟩ := h.bd
  have hmm := @run_makeMap Try.prog
  have hzb := zeroBo
  have hM0 := MapOf.made w .u32 Value.bool
  have hB0 := (Below.refl w.heap.size w).alloc (Nat.le_refl _) (.map #[] 0)
  have HM0 := Lib.hid hM0
  have HB0 := Lib.hid hB0
  have HED : Hid (edgs es) := h.2.2.2.2
  clear hM0 hB0
  go_enter Try.func70, Try.ntmps70
  go_wp2_with fail
  go_loopw [4, 6, 10] (fun s4 _ s10 wr => ∃ (k : Nat) (low : Int) (m : List (Int × Bool)), k ≤ n ∧ s10 = .int .i64 k ∧ s4 = .int .u32 low ∧ MapOf wr w.heap.size .u32 Value.bool m ∧ Hid (low = clashTo es k ∧ (0 ≤ low ∧ low < 4294967296) ∧ ∀ i, (mget m i).getD false = decide (i ∈ idsTo es k)) ∧ Below w.heap.size w wr) (fun _ _ s10 _ => n - (intOf s10).toNat)
  case atStart => exact ⟨0, 0, [], by omega, rfl, rfl, HM0.out, ⟨rfl, by omega, fun i => by simp [mget, idsTo]⟩, HB0.out⟩
  case round =>
    clear HM0 HB0
    obtain ⟨k, low, m, hk, rfl, rfl, hm, hL, hbr⟩ := hrel
    by_cases hlt : k < n
    · have hq := h.below (hbr.mono hB)
      obtain ⟨ad, x, rfl, hbl, hx, hxb, hc1, hc2, hc3⟩ := hq.at_ hlt
      have HX := Lib.hid hx
      have hml := hm.lt
      have HM := Lib.hid (hm.alloc (.cells #[.int .u32 x.1, .int .u32 x.2.1, .int .u32 x.2.2] 39))
      have HBR := Lib.hid (hbr.alloc hbr.size (.cells #[.int .u32 x.1, .int .u32 x.2.1, .int .u32 x.2.2] 39))
      clear hx hm hbr hq
      have hKx := K_at HX.out
      have hset : Hid (∀ i, (mget (mput m x.1 true) i).getD false = decide (i ∈ idsTo es (k + 1))) := fun i => by
        rw [mget_mput, idsTo_succ HX.out]
        by_cases e : i = x.1
        · rw [if_pos e]; simp [e]
        · rw [if_neg e, hL.out.2.2 i]; simp [e]
      have hnext : Hid (clashTo es (k + 1) = if decide (x.1 ∈ idsTo es k) && (decide (low = 0) || decide (x.1 < low)) then x.1 else low) := by
        show _ = _
        rw [clashTo, hKx, hL.out.1]
      have hlk0 : ((mget m x.1).map Value.bool).getD (.bool false) = .bool (decide (x.1 ∈ idsTo es k)) := by
        rw [← hL.out.2.2 x.1]; cases mget m x.1 <;> rfl
      clear hKx
      by_cases hs : x.1 ∈ idsTo es k
      · have hlk : ((mget m x.1).map Value.bool).getD (.bool false) = .bool true := by rw [hlk0]; simp [hs]
        have HS := Lib.hid hs
        clear hs hlk0
        by_cases h0 : low = 0
        · have h0' : (low == 0) = true := by simp [h0]
          have H0 := Lib.hid h0
          clear h0
          go_wp2_with (first
            | (at_lookup; refine wpList_mlook rfl (.tmp 14) (.tmp 16) 60 31 4 rfl Try.underlying60 Try.underlying31 hzb x.1 HM.out rfl rfl ?_; rw [hlk])
            | (at_mapUpdate; refine wpList_mput rfl (.tmp 30) (.tmp 32) (.const (.bool true)) 60 31 4 rfl Try.underlying60 Try.underlying31 x.1 true HM.out rfl rfl rfl ?_; intro w5 u1 u2 u3))
          go_roundw
          case rel => exact ⟨k + 1, x.1, mput m x.1 true, by omega, by go_num, rfl, u1, ⟨by rw [hnext.out]; simp [HS.out, H0.out], by first | exact hxb.1 | exact hL.out.2.1, hset.out⟩, HBR.out.grown u2 HBR.out.size (fun g e => by cases e; exact Nat.le_refl _)⟩
          case measure => simp [intOf]; omega
        · have h0' : (low == 0) = false := by simp [h0]
          have H0 := Lib.hid h0
          clear h0
          by_cases hlx : x.1 < low
          · have HLX := Lib.hid hlx
            go_wp2_with (first
              | (at_lookup; refine wpList_mlook rfl (.tmp 14) (.tmp 16) 60 31 4 rfl Try.underlying60 Try.underlying31 hzb x.1 HM.out rfl rfl ?_; rw [hlk])
              | (at_mapUpdate; refine wpList_mput rfl (.tmp 30) (.tmp 32) (.const (.bool true)) 60 31 4 rfl Try.underlying60 Try.underlying31 x.1 true HM.out rfl rfl rfl ?_; intro w5 u1 u2 u3))
            go_roundw
            case rel => exact ⟨k + 1, x.1, mput m x.1 true, by omega, by go_num, rfl, u1, ⟨by rw [hnext.out]; simp [HS.out, HLX.out], by first | exact hxb.1 | exact hL.out.2.1, hset.out⟩, HBR.out.grown u2 HBR.out.size (fun g e => by cases e; exact Nat.le_refl _)⟩
            case measure => simp [intOf]; omega
          · have hlx' : decide (x.1 < low) = false := by simpa using hlx
            have HLX := Lib.hid hlx
            clear hlx
            go_wp2_with (first
              | (at_lookup; refine wpList_mlook rfl (.tmp 14) (.tmp 16) 60 31 4 rfl Try.underlying60 Try.underlying31 hzb x.1 HM.out rfl rfl ?_; rw [hlk])
              | (at_mapUpdate; refine wpList_mput rfl (.tmp 30) (.tmp 32) (.const (.bool true)) 60 31 4 rfl Try.underlying60 Try.underlying31 x.1 true HM.out rfl rfl rfl ?_; intro w5 u1 u2 u3))
            go_roundw
            case rel => exact ⟨k + 1, low, mput m x.1 true, by omega, by go_num, rfl, u1, ⟨by rw [hnext.out]; simp [H0.out]; intro _ h; exact absurd h HLX.out, by first | exact hxb.1 | exact hL.out.2.1, hset.out⟩, HBR.out.grown u2 HBR.out.size (fun g e => by cases e; exact Nat.le_refl _)⟩
            case measure => simp [intOf]; omega
      · have hlk : ((mget m x.1).map Value.bool).getD (.bool false) = .bool false := by rw [hlk0]; simp [hs]
        have HS := Lib.hid hs
        clear hs hlk0
        go_wp2_with (first
          | (at_lookup; refine wpList_mlook rfl (.tmp 14) (.tmp 16) 60 31 4 rfl Try.underlying60 Try.underlying31 hzb x.1 HM.out rfl rfl ?_; rw [hlk])
          | (at_mapUpdate; refine wpList_mput rfl (.tmp 30) (.tmp 32) (.const (.bool true)) 60 31 4 rfl Try.underlying60 Try.underlying31 x.1 true HM.out rfl rfl rfl ?_; intro w5 u1 u2 u3))
        go_roundw
        case rel => exact ⟨k + 1, low, mput m x.1 true, by omega, by go_num, rfl, u1, ⟨by rw [hnext.out]; simp [HS.out], by first | exact hxb.1 | exact hL.out.2.1, hset.out⟩, HBR.out.grown u2 HBR.out.size (fun g e => by cases e; exact Nat.le_refl _)⟩
        case measure => simp [intOf]; omega
    · obtain rfl : k = n := by omega
      go_wp2_with fail
      go_ret
      exact ⟨ret_int hL.out.1, hbr⟩
end Go.Proofs.Ytklmckbpbloonaa
