/- Parts of the proof: Dart. -/
import Derived.Test.YtklmckbpbloonaaBC2
import Derived.Test.YtklmckbpbloonaaBC1
import Derived.Lib.AppendZerosOnto
namespace Go.Proofs.Ytklmckbpbloonaa
open Go.RowKit

def dOf (id e : Int) : Int := (2 * id) % 4294967296 + e
def twinD (d : Int) : Int := if d % 2 = 0 then d + 1 else d - 1

theorem xor_one (n : Nat) : n ^^^ 1 = if n % 2 = 0 then n + 1 else n - 1 := by
  have h1 : (n ^^^ 1) / 2 = n / 2 := by rw [Nat.xor_div_two]; simp
  have h2 : (n ^^^ 1).testBit 0 = !(n.testBit 0) := by rw [Nat.testBit_xor]; simp
  simp only [Nat.testBit_zero] at h2
  split
  · rename_i h
    have : (n ^^^ 1) % 2 = 1 := by
      have h3 : decide (n % 2 = 1) = false := by simp [h]
      rw [h3] at h2; simpa using h2
    omega
  · rename_i h
    have : ¬ (n ^^^ 1) % 2 = 1 := by
      have h3 : decide (n % 2 = 1) = true := by simp; omega
      rw [h3] at h2; simpa using h2
    omega
theorem or_one (n : Nat) (h : n % 2 = 0) : n ||| 1 = n + 1 := by
  have h1 : (n ||| 1) / 2 = n / 2 := by rw [Nat.or_div_two]; simp
  have h2 : (n ||| 1) % 2 = 1 := Nat.or_mod_two_eq_one.2 (.inr rfl)
  omega
theorem and_i64_01 : bits .and .i64 0 1 = 0 := by decide
theorem and_i64_11 : bits .and .i64 1 1 = 1 := by decide

set_option maxHeartbeats 400000 in
theorem dartOf0 (id : Int) (w : World) :
    Calls Try.prog 62 #[.int .u32 id, .int .i64 0] w fun e w' => e = .returned (.int .u32 (dOf id 0)) ∧ w = w' := by
  go_enter Try.func62, Try.ntmps62
  go_wp2
  go_ret
  refine ⟨congrArg Ending.returned (congrArg (Value.int .u32) ?_), rfl⟩
  rw [and_i64_01]
  rw [u32_or _ _ (by omega) (by omega) (by omega) (by omega)]
  unfold dOf
  simp
  omega
set_option maxHeartbeats 400000 in
theorem dartOf1 (id : Int) (w : World) :
    Calls Try.prog 62 #[.int .u32 id, .int .i64 1] w fun e w' => e = .returned (.int .u32 (dOf id 1)) ∧ w = w' := by
  go_enter Try.func62, Try.ntmps62
  go_wp2
  go_ret
  refine ⟨congrArg Ending.returned (congrArg (Value.int .u32) ?_), rfl⟩
  rw [and_i64_11]
  rw [u32_or _ _ (by omega) (by omega) (by omega) (by omega)]
  unfold dOf
  show ((_ ||| 1 : Nat) : Int) = _
  rw [or_one _ (by omega)]
  omega
set_option maxHeartbeats 400000 in
theorem twin_any (d : Int) (w : World) (h : 0 ≤ d ∧ d < 4294967296) :
    Calls Try.prog 119 #[.int .u32 d] w fun e w' => e = .returned (.int .u32 (twinD d)) ∧ w = w' := by
  go_enter Try.func119, Try.ntmps119
  go_wp2
  go_ret
  refine ⟨congrArg Ending.returned (congrArg (Value.int .u32) ?_), rfl⟩
  rw [u32_xor _ _ h.1 h.2 (by omega) (by omega)]
  show ((_ ^^^ 1 : Nat) : Int) = _
  rw [xor_one]
  unfold twinD
  split <;> split <;> omega
set_option maxHeartbeats 400000 in
theorem dedge_any (d : Int) (w : World) :
    Calls Try.prog 157 #[.int .u32 d] w fun e w' => e = .returned (.int .u32 (d / 2)) ∧ w = w' := by
  go_enter Try.func157, Try.ntmps157
  go_wp2
  go_ret
  exact ⟨rfl, rfl⟩

theorem OwnU.empty (w : World) : OwnU (w.alloc (.cells #[] 31)) (some w.heap.size) (some ⟨w.heap.size, 0, none⟩) 0 0 [] :=
  ⟨⟨⟨Nat.le_refl _, by omega, by simp [U], rfl, #[], heap_alloc_new w _, rfl, rfl⟩, fun h => by cases h⟩, by intro x hx; simp at hx⟩
theorem OwnE.empty (w : World) : OwnE (w.alloc (.cells #[] 39)) (some w.heap.size) (some ⟨w.heap.size, 0, none⟩) 0 0 [] :=
  ⟨⟨⟨Nat.le_refl _, by omega, by simp [Ed], rfl, #[], heap_alloc_new w _, rfl, rfl⟩, fun h => by cases h⟩, by intro x hx; simp at hx⟩
/-- Behind an append the old memory stands, where the row was the call's own. -/
theorem below_grown {B : Nat} {a w w' : World} {r : Option Nat} (h : Below B a w) (hg : w.grownBy w' r) (hB : B ≤ w.heap.size) (hr : ∀ g, r = some g → B ≤ g) : Below B a w' := h.grown hg hB hr
theorem below_drew1 {B : Nat} {w w' : World} (h : Below B w.drew w') : Below B w w' := ⟨h.os, h.tape, h.output, h.size, h.block⟩
theorem new_row {B : Nat} {w : World} {r r' : Option Nat} (h : r' = r ∨ ∀ g, r' = some g → w.heap.size ≤ g) (hr : ∀ g, r = some g → B ≤ g) (hB : B ≤ w.heap.size) : ∀ g, r' = some g → B ≤ g := by
  intro g hg
  rcases h with rfl | h
  · exact hr g hg
  · exact Nat.le_trans hB (h g hg)

set_option maxHeartbeats 400000 in
theorem cloneU (B : Nat) (A : Option Addr) (n c : Nat) (xs : List Int) (w : World) (h : RdU w B A n c xs) (hn : n ≤ 17592186044416) (hB : B ≤ w.heap.size) :
    Calls Try.prog 63 #[.slice A n c] w fun e w' => ∃ r A' c', e = .returned (.slice A' n c') ∧ OwnU w' r A' n c' xs ∧ Below w.heap.size w w' ∧ (∀ g, r = some g → w.heap.size ≤ g) := by
  have q22 : ∀ (w : World) (a : Option Addr) (n c n' c' : Nat), (binOp .eql 22 (.slice a n c) (.slice none n' c')).run Try.prog w = .ok (.bool a.isNone) w := fun w a n c n' c' => Lib.run_eql_slice_nil w _ _ a n c n' c' Try.underlying22
  have HL := Lib.hid h.len
  cases A with
  | none =>
    have hc := h.2.2.2.1 rfl
    have hnc := h.2.1
    have hn0 : n = 0 := by omega
    subst hn0
    have hx : xs = [] := List.eq_nil_of_length_eq_zero HL.out
    subst hx
    clear hc hnc
    go_enter Try.func63, Try.ntmps63
    go_wp2
    go_ret
    exact ⟨none, none, 0, rfl, OwnU.nil_ _ _, Below.refl _ _, by simp⟩
  | some ad =>
    go_enter Try.func63, Try.ntmps63
    have hb : Below w.heap.size w (w.alloc (.cells #[] 31)) := (Below.refl _ _).alloc (Nat.le_refl _) _
    have HR := Lib.hid (h.below (hb.mono hB))
    have HE := Lib.hid (OwnU.empty w)
    go_wp2_with (at_builtin; refine appU rfl _ _ rfl _ _ _ _ _ _ rfl HE.out B _ _ _ xs rfl HR.out (by omega) ?_; intro r' A'' c'' w' h2 h3 h4)
    simp only [Nat.zero_add, List.nil_append] at h2
    go_wp2
    go_ret
    refine ⟨r', A'', c'', by simp, h2, hb.grown h3 (by simp) (by simp), new_row h4 (by simp) (by simp)⟩

set_option maxHeartbeats 400000 in
theorem cloneE (B : Nat) (A : Option Addr) (n c : Nat) (xs : List Edg) (w : World) (h : RdE w B A n c xs) (hn : n ≤ 4398046511104) (hB : B ≤ w.heap.size) :
    Calls Try.prog 79 #[.slice A n c] w fun e w' => ∃ r A' c', e = .returned (.slice A' n c') ∧ OwnE w' r A' n c' xs ∧ Below w.heap.size w w' ∧ (∀ g, r = some g → w.heap.size ≤ g) := by
  have q22 : ∀ (w : World) (a : Option Addr) (n c n' c' : Nat), (binOp .eql 23 (.slice a n c) (.slice none n' c')).run Try.prog w = .ok (.bool a.isNone) w := fun w a n c n' c' => Lib.run_eql_slice_nil w _ _ a n c n' c' Try.underlying23
  have HL := Lib.hid h.len
  cases A with
  | none =>
    have hc := h.2.2.2.1 rfl
    have hnc := h.2.1
    have hn0 : n = 0 := by omega
    subst hn0
    have hx : xs = [] := List.eq_nil_of_length_eq_zero HL.out
    subst hx
    clear hc hnc
    go_enter Try.func79, Try.ntmps79
    go_wp2
    go_ret
    exact ⟨none, none, 0, rfl, OwnE.nil_ _ _, Below.refl _ _, by simp⟩
  | some ad =>
    go_enter Try.func79, Try.ntmps79
    have hb : Below w.heap.size w (w.alloc (.cells #[] 39)) := (Below.refl _ _).alloc (Nat.le_refl _) _
    have HR := Lib.hid (h.below (hb.mono hB))
    have HE := Lib.hid (OwnE.empty w)
    go_wp2_with (at_builtin; refine appE rfl _ _ rfl _ _ _ _ _ _ rfl HE.out B _ _ _ xs rfl HR.out (by omega) ?_; intro r' A'' c'' w' h2 h3 h4)
    simp only [Nat.zero_add, List.nil_append] at h2
    go_wp2
    go_ret
    refine ⟨r', A'', c'', by simp, h2, hb.grown h3 (by simp) (by simp), new_row h4 (by simp) (by simp)⟩

set_option maxRecDepth 100000 in
set_option maxHeartbeats 1000000 in
/-- append(slices.Clone(l[i:]), l[:i]...) -/
theorem from_any (B : Nat) (A : Option Addr) (n c i : Nat) (xs : List Int) (w : World) (h : RdU w B A n c xs) (hn : n ≤ 17592186044416) (hB : B ≤ w.heap.size) (hi : i ≤ n) :
    Calls Try.prog 115 #[.slice A n c, .int .i64 i] w fun e w' => ∃ r A' c', e = .returned (.slice A' n c') ∧ OwnU w' r A' n c' (xs.drop i ++ xs.take i) ∧ Below w.heap.size w w' ∧ (∀ g, r = some g → w.heap.size ≤ g) := by
  obtain ⟨hnc, hc⟩ := h.bd
  have hcut := h.cut hi
  have hcutTo := h.cutTo hi
  have b1 : (i : Int) ≤ c := by omega
  have b2 : (i : Int) ≤ n := by omega
  have b3 : i ≤ c := by omega
  go_enter Try.func115, Try.ntmps115
  go_wp2_with fail
  go_region_law (first
    | (go_simp; go_at_call 63; refine (cloneU B _ _ _ (xs.drop i) _ hcut.drew (by omega) hB).mono ?_; rintro e w1 ⟨r1, A1, c1, rfl, h1, h2, h3⟩; have hl := hcutTo.drew.below (h2.mono hB))
    | (refine stepU rfl _ _ rfl _ _ _ _ _ _ rfl h1 B _ _ _ _ rfl hl (by omega) ?_; intro r' A' c' w2 k2 k3 k4; simp only [Nat.sub_add_cancel hi] at k2 ⊢))
  go_wp2
  all_goals
    go_ret
    exact ⟨r', A', c', by simp, k2, (below_drew1 h2).grown k3 h2.size h3, new_row k4 h3 h2.size⟩

def minFrom : Int → List Int → Int
  | m, [] => m
  | m, y :: ys => minFrom (if y < m then y else m) ys
def minL (xs : List Int) : Int := minFrom (xs.headD 0) (xs.drop 1)
theorem minFrom_le (m : Int) (xs : List Int) : minFrom m xs ≤ m ∧ (∀ x ∈ xs, minFrom m xs ≤ x) ∧ (minFrom m xs = m ∨ minFrom m xs ∈ xs) := by
  induction xs generalizing m with
  | nil => simp [minFrom]
  | cons y ys ih =>
    have := ih (if y < m then y else m)
    simp only [minFrom]
    split at this <;> rename_i h
    · rw [if_pos h]; refine ⟨by omega, fun x hx => ?_, ?_⟩
      · rcases List.mem_cons.1 hx with rfl | hx
        · exact this.1
        · exact this.2.1 x hx
      · rcases this.2.2 with e | e
        · right; rw [e]; exact List.mem_cons_self
        · right; exact List.mem_cons_of_mem _ e
    · rw [if_neg h]; refine ⟨by omega, fun x hx => ?_, ?_⟩
      · rcases List.mem_cons.1 hx with rfl | hx
        · omega
        · exact this.2.1 x hx
      · rcases this.2.2 with e | e
        · left; exact e
        · right; exact List.mem_cons_of_mem _ e
theorem minL_mem {xs : List Int} (h : xs ≠ []) : minL xs ∈ xs ∧ ∀ x ∈ xs, minL xs ≤ x := by
  cases xs with
  | nil => exact absurd rfl h
  | cons y ys =>
    have := minFrom_le y ys
    simp only [minL, List.headD_cons, List.drop_succ_cons, List.drop_zero]
    refine ⟨?_, fun x hx => ?_⟩
    · rcases this.2.2 with e | e
      · rw [e]; exact List.mem_cons_self
      · exact List.mem_cons_of_mem _ e
    · rcases List.mem_cons.1 hx with rfl | hx
      · exact this.1
      · exact this.2.1 x hx

set_option maxHeartbeats 400000 in
theorem min_any (B : Nat) (A : Option Addr) (n c : Nat) (xs : List Int) (w : World) (h : RdU w B A n c xs) (h0 : 0 < n) :
    Calls Try.prog 116 #[.slice A n c] w fun e w' => e = .returned (.int .u32 (minL xs)) ∧ w = w' := by
  have HL := Lib.hid h.len
  obtain ⟨hn, hc⟩ := h.bd
  obtain ⟨ad, x, rfl, _, hx, _, hcell⟩ := h.at_ h0
  rw [Addr.add_zero'] at hcell
  have h1 : ¬ (n : Int) < 1 := by omega
  have h2 : (0 : Int) < n := by omega
  have HX := Lib.hid hx
  clear hx
  have HM : Hid (minL xs = minFrom x (xs.drop 1)) := by
    show minL xs = _
    unfold minL; rw [List.headD_eq_head?_getD, List.head?_eq_getElem?, HX.out]; rfl
  go_enter Try.func116, Try.ntmps116
  go_wp2
  go_loop [3, 4] (fun m i => ∃ (k : Nat) (y : Int), 1 ≤ k ∧ k ≤ n ∧ i = .int .i64 k ∧ m = .int .u32 y ∧ Hid (minFrom y (xs.drop k) = minL xs)) (fun _ i => n - (intOf i).toNat)
  case atStart => exact ⟨1, x, Nat.le_refl _, by omega, rfl, rfl, HM.out.symm⟩
  case round =>
    obtain ⟨k, y, hk1, hk, rfl, rfl, HJ⟩ := hrel
    clear hcell
    by_cases hlt : k < n
    · obtain ⟨_, z, he, _, hz, _, hcell⟩ := h.at_ hlt
      injection he with he
      subst he
      have HZ := Lib.hid hz
      clear hz
      go_wp2
      go_round
      case rel =>
        refine ⟨k + 1, _, by omega, by omega, by go_num, rfl, ?_⟩
        show minFrom _ (xs.drop (k + 1)) = minL xs
        rw [← HJ.out, drop_at HZ.out]; rfl
      case measure => simp [intOf]; omega
    · go_wp2
      go_ret
      refine ⟨congrArg Ending.returned (congrArg (Value.int .u32) ?_), rfl⟩
      rw [← HJ.out, List.drop_of_length_le (by have := HL.out; omega)]; rfl

theorem idx_nat {xs : List Int} {x : Int} (h : x ∈ xs) : ∃ k : Nat, idx xs x = k ∧ k < xs.length := ⟨xs.idxOf x, by simp [idx, h], List.idxOf_lt_length_of_mem h⟩
def normL (xs : List Int) : List Int := xs.drop (idx xs (minL xs)).toNat ++ xs.take (idx xs (minL xs)).toNat

set_option maxHeartbeats 400000 in
theorem normal_any (B : Nat) (A : Option Addr) (n c : Nat) (xs : List Int) (w : World) (h : RdU w B A n c xs) (hn : n ≤ 17592186044416) (hB : B ≤ w.heap.size) :
    Calls Try.prog 91 #[.slice A n c] w fun e w' => ∃ r A' c', e = .returned (.slice A' n c') ∧ OwnU w' r A' n c' (normL xs) ∧ Below w.heap.size w w' ∧ (∀ g, r = some g → w.heap.size ≤ g) := by
  have HL := Lib.hid h.len
  by_cases h0 : n = 0
  · subst h0
    have hx : xs = [] := List.eq_nil_of_length_eq_zero HL.out
    subst hx
    go_enter Try.func91, Try.ntmps91
    go_wp2
    go_ret
    exact ⟨none, none, 0, rfl, OwnU.nil_ _ _, Below.refl _ _, by simp⟩
  · have h0' : ((n : Int) == 0) = false := by simp [h0]
    have hp : 0 < n := by omega
    obtain ⟨k, hk, hkl⟩ := idx_nat (minL_mem (xs := xs) (by intro e; subst e; have := HL.out; simp at this; omega)).1
    have HK := Lib.hid hk
    clear hk
    go_enter Try.func91, Try.ntmps91
    go_wp2_with (first
      | (go_at_call 116; refine (min_any B _ _ _ xs _ h hp).mono ?_; rintro e w' ⟨rfl, rfl⟩)
      | (go_at_call 59; refine (index_any B _ _ _ xs _ _ h).mono ?_; rintro e w' ⟨rfl, rfl⟩; rw [HK.out])
      | (go_at_call 115; refine (from_any B _ _ _ k xs _ h hn hB (by have := HL.out; omega)).mono ?_; rintro e w' ⟨r, A', c', rfl, h1, h2, h3⟩))
    go_ret
    refine ⟨r, A', c', rfl, ?_, h2, h3⟩
    unfold normL; rw [HK.out]; exact h1

set_option maxRecDepth 100000 in
set_option maxHeartbeats 400000 in
/-- slices.Grow of nil. -/
theorem grow_nil (n : Nat) (w : World) (hn : n ≤ 17592186044416) :
    Calls Try.prog 167 #[.slice none 0 0, .int .i64 n] w fun e w' => ∃ r A' c', e = .returned (.slice A' 0 c') ∧ OwnU w' r A' 0 c' [] ∧ Below w.heap.size w w' ∧ (∀ g, r = some g → w.heap.size ≤ g) := by
  by_cases h0 : n = 0
  · subst h0
    go_enter Try.func167, Try.ntmps167
    go_wp2
    go_ret
    exact ⟨none, none, 0, rfl, OwnU.nil_ _ _, Below.refl _ _, by simp⟩
  · obtain ⟨i0, hi, hz0, hz1, hz2⟩ := info_parts infoU
    have hrz : ∀ ty, (Builtin.append_ #[22, 3] ty #[.slice none 0 0, .int .i64 (n : Int)]).run Try.prog w =
        .ok (.slice (some ⟨w.heap.size, 0, none⟩) n (grownCap w n 0 31)) (w.drew.alloc (.cells (#[] ++ Builtin.zeroCells #[.int .u32 0] n ++ Builtin.zeroCells #[.int .u32 0] (grownCap w n 0 31 - n)) 31)) := fun ty => by
      have h := Lib.run_append_grow_zeros (P := Try.prog) w 22 3 ty 31 i0 (.int .u32 0) .i64 .i64 Try.underlying22 Try.underlying3 hi hz0 none 0 0 [] (run_firstCells_none w.drew i0.size 0 0 0) n (by omega) (by rw [hz1]; decide) (by omega) (by omega)
        (by rw [hz2]; omega) (growslice_fits (by omega) (by rw [hz2]; omega))
      simp only [Nat.zero_add] at h
      exact h
    have hG : n ≤ grownCap w n 0 31 := grownCap_ge w _ _ _
    have hG63 : grownCap w n 0 31 ≤ 9223372036854775807 := by
      have := grownCap_le_maxLen w n 0 31 (by unfold maxLen; omega)
      unfold maxLen at this
      omega
    generalize grownCap w n 0 31 = G at hrz hG hG63
    have h1 : (0 : Int) < n := by omega
    have h2 : 0 < n := by omega
    generalize hC : (#[] ++ Builtin.zeroCells #[Value.int .u32 0] n ++ Builtin.zeroCells #[Value.int .u32 0] (G - n)) = C at hrz
    have HC : Hid (C.size = G) := by
      show C.size = G
      rw [← hC]; simp [Builtin.zeroCells]; omega
    clear hC
    go_enter Try.func167, Try.ntmps167
    go_wp2_with (at_builtin; refine Lib.wpList_append_run _ rfl _ _ _ _ rfl _ _ rfl rfl _ _ (hrz _) ?_)
    go_ret
    refine ⟨some w.heap.size, _, G, rfl, ⟨⟨⟨by omega, hG63, by simp [U], rfl, C, heap_alloc_new w.drew _, by rw [HC.out]; omega, by simp [U]⟩, fun h => by cases h⟩, by intro x hx; simp at hx⟩, ((Below.refl _ _).drew).alloc (Nat.le_refl _) _, by simp⟩

/-- The first k rows, one behind the other; how long. (Plain definitions: the walk's simp does not look behind them.) -/
def catTo (xss : List (List Int)) (k : Nat) : List Int := (xss.take k).flatten
def catN (xss : List (List Int)) (k : Nat) : Nat := (catTo xss k).length
theorem catTo_all (xss : List (List Int)) : catTo xss xss.length = xss.flatten := by unfold catTo; rw [List.take_length]
theorem catTo_succ {xss : List (List Int)} {k : Nat} {xs : List Int} (h : xss[k]? = some xs) : catTo xss (k + 1) = catTo xss k ++ xs := by
  unfold catTo; rw [take_at h, List.flatten_append, List.flatten_singleton]
theorem catN_succ {xss : List (List Int)} {k : Nat} {xs : List Int} (h : xss[k]? = some xs) : catN xss (k + 1) = catN xss k + xs.length := by
  unfold catN; rw [catTo_succ h, List.length_append]
theorem catN_le (xss : List (List Int)) (k : Nat) : catN xss k ≤ catN xss xss.length := by
  unfold catN
  rw [catTo_all]
  have : xss.flatten.length = (catTo xss k).length + (xss.drop k).flatten.length := by
    unfold catTo; rw [← List.length_append, ← List.flatten_append, List.take_append_drop]
  omega
set_option maxRecDepth 100000 in
set_option maxHeartbeats 400000 in
theorem concat_any (B : Nat) (A : Option Addr) (n c : Nat) (xss : List (List Int)) (w : World) (h : RdUU w B A n c xss) (hn : catN xss n ≤ 17592186044416) (hB : B ≤ w.heap.size) :
    Calls Try.prog 147 #[.slice A n c] w fun e w' => ∃ r A' c', e = .returned (.slice A' (catN xss n) c') ∧ OwnU w' r A' (catN xss n) c' (catTo xss n) ∧ Below w.heap.size w w' ∧ (∀ g, r = some g → w.heap.size ≤ g) := by
  have HL := Lib.hid h.len
  have HN := Lib.hid hn
  clear hn
  obtain ⟨hn, hc⟩ := h.bd
  have hle : ∀ k, catN xss k ≤ 17592186044416 := fun k => by have := catN_le xss k; have := HN.out; rw [HL.out] at *; omega
  have HLE := Lib.hid hle
  clear hle
  go_enter Try.func147, Try.ntmps147
  go_wp2
  go_loop [3, 11] (fun m i => ∃ k : Nat, k ≤ n ∧ i = .int .i64 k ∧ m = .int .i64 (catN xss k)) (fun _ i => n - (intOf i).toNat)
  case atStart => exact ⟨0, by omega, rfl, rfl⟩
  case round =>
    obtain ⟨k, hk, rfl, rfl⟩ := hrel
    by_cases hlt : k < n
    · obtain ⟨ad, xs, A', n', c', rfl, _, hx, hcell, hr⟩ := h.at_ hlt
      have HS : Hid (catN xss (k + 1) = catN xss k + n') := by show _ = _; rw [catN_succ hx, hr.len]
      have hle : catN xss k + n' ≤ 17592186044416 := by have := HLE.out (k + 1); rw [HS.out] at this; exact this
      have hneg : ¬ ((catN xss k : Int) + n' < 0) := by omega
      clear hx
      go_wp2
      go_round
      case rel => exact ⟨k + 1, by omega, by go_num, by rw [HS.out]; go_num⟩
      case measure => simp [intOf]; omega
    · obtain rfl : k = n := by omega
      have hNn := HLE.out k
      go_wp2_with (go_at_call 167; refine (grow_nil _ _ hNn).mono ?_; rintro e w1 ⟨r1, A1, c1, rfl, h1, h2, h3⟩)
      go_loopw [6, 27] (fun v i wr => ∃ (j : Nat) (r : Option Nat) (A' : Option Addr) (c' : Nat), j ≤ k ∧ i = .int .i64 j ∧ v = .slice A' (catN xss j) c' ∧ OwnU wr r A' (catN xss j) c' (catTo xss j) ∧ Below w.heap.size w wr ∧ (∀ g, r = some g → w.heap.size ≤ g)) (fun _ i _ => k - (intOf i).toNat)
      case atStart => exact ⟨0, r1, A1, c1, by omega, rfl, rfl, h1, h2, h3⟩
      case round =>
        obtain ⟨j, r, A', c', hj, rfl, rfl, hown, hbr, hrg⟩ := hrel
        clear h1 h2 h3
        have hq := h.below (hbr.mono hB)
        by_cases hlt : j < k
        · obtain ⟨ad, xs, A2, n2, c2, rfl, _, hx, hcell, hr⟩ := hq.at_ hlt
          have HX := Lib.hid hx
          clear hx
          have HS : Hid (catN xss (j + 1) = catN xss j + n2) := by show _ = _; rw [catN_succ HX.out, hr.len]
          have hle : catN xss j + n2 ≤ 17592186044416 := by have := HLE.out (j + 1); rw [HS.out] at this; exact this
          have HR := Lib.hid hr
          have HO := Lib.hid hown
          clear hr hown
          go_wp2_with (at_builtin; refine appU rfl _ _ rfl _ _ _ _ _ _ rfl HO.out B _ _ _ xs rfl HR.out hle ?_; intro r' A'' c'' w' k2 k3 k4)
          go_roundw
          case rel => exact ⟨j + 1, r', A'', c'', by omega, by go_num, by rw [HS.out], by rw [HS.out, catTo_succ HX.out]; exact k2, hbr.grown k3 hbr.size hrg, new_row k4 hrg hbr.size⟩
          case measure => simp [intOf]; omega
        · obtain rfl : j = k := by omega
          go_wp2
          go_ret
          exact ⟨r, A', c', rfl, hown, hbr, hrg⟩

theorem catTo_three (a b c : List Int) : catTo [a, b, c] 3 = a ++ (b ++ c) := by simp [catTo]
theorem catN_three (a b c : List Int) : catN [a, b, c] 3 = a.length + b.length + c.length := by simp [catN, catTo_three]; omega
def insAt (xs : List Int) (x : Int) : Nat := if idx xs x < 0 then xs.length else (idx xs x).toNat + 1
def insL (xs : List Int) (x : Int) (more : List Int) : List Int := normL (catTo [xs.take (insAt xs x), more, xs.drop (insAt xs x)] 3)

set_option maxRecDepth 100000 in
set_option maxHeartbeats 1000000 in
theorem insert_any (B : Nat) (A A' : Option Addr) (n c n' c' : Nat) (xs ys : List Int) (x : Int) (w : World) (h : RdU w B A n c xs) (h' : RdU w B A' n' c' ys) (hn : n + n' ≤ 17592186044416) (hB : B ≤ w.heap.size) :
    Calls Try.prog 118 #[.slice A n c, .int .u32 x, .slice A' n' c'] w fun e w' => ∃ r A'' m c'', e = .returned (.slice A'' m c'') ∧ OwnU w' r A'' m c'' (insL xs x ys) ∧ Below w.heap.size w w' ∧ (∀ g, r = some g → w.heap.size ≤ g) := by
  have HL := Lib.hid h.len
  have HL' := Lib.hid h'.len
  obtain ⟨hnc, hc⟩ := h.bd
  obtain ⟨hnc', hc'⟩ := h'.bd
  have HI : Hid (∃ j : Nat, insAt xs x = j ∧ j ≤ n ∧ (idx xs x = (j : Int) - 1 ∧ 1 ≤ j ∨ idx xs x = -1 ∧ j = n)) := by
    refine ⟨_, rfl, ?_⟩
    have := HL.out
    unfold insAt
    rcases idx_lo xs x with h2 | h2
    · split <;> omega
    · rw [if_pos (by omega)]; omega
  obtain ⟨j, hj, hjn, hcase⟩ := HI.out
  have HJ := Lib.hid hj
  clear hj HI
  have b1 : (j : Int) ≤ c := by omega
  have b2 : (j : Int) ≤ n := by omega
  have b3 : j ≤ c := by omega
  have hcut := h.cut hjn
  have hcutTo := h.cutTo hjn
  have hm : catN [xs.take j, ys, xs.drop j] 3 ≤ 17592186044416 := by
    rw [catN_three, hcut.len, hcutTo.len, h'.len]; omega
  have fin : ∀ (w1 w2 : World) (r : Option Nat) (A2 : Option Addr) (c2 : Nat), Below w.heap.size w w1 → OwnU w2 r A2 (catN [xs.take j, ys, xs.drop j] 3) c2 (normL (catTo [xs.take j, ys, xs.drop j] 3)) → Below w1.heap.size w1 w2 → (∀ g, r = some g → w1.heap.size ≤ g) →
      ∃ r A'' m c'', Ending.returned (.slice A2 (catN [xs.take j, ys, xs.drop j] 3) c2) = .returned (.slice A'' m c'') ∧ OwnU w2 r A'' m c'' (insL xs x ys) ∧ Below w.heap.size w w2 ∧ (∀ g, r = some g → w.heap.size ≤ g) := by
    intro w1 w2 r A2 c2 k1 k2 k3 k4
    refine ⟨r, A2, _, c2, rfl, ?_, k1.trans (k3.mono k1.size), fun g hg => Nat.le_trans k1.size (k4 g hg)⟩
    unfold insL; rw [HJ.out]; exact k2
  generalize hM : catN [xs.take j, ys, xs.drop j] 3 = M at hm fin
  have HM := Lib.hid hM
  clear hM
  have FIN := Lib.hid fin
  clear fin
  have hw1 : Below w.heap.size w (w.alloc (.cells #[.slice A j c, .slice A' n' c', .slice (if c = j then A else Option.map (fun x => x.add j) A) (n - j) (c - j)] 22)).drew := ((Below.refl _ _).alloc (Nat.le_refl _) _).drew
  have hUU : RdUU (w.alloc (.cells #[.slice A j c, .slice A' n' c', .slice (if c = j then A else Option.map (fun x => x.add j) A) (n - j) (c - j)] 22)).drew (w.heap.size + 1) (some ⟨w.heap.size, 0, none⟩) 3 3 [xs.take j, ys, xs.drop j] :=
    RdUU.three (h0 := (A, j, c)) (h1 := (A', n', c')) (h2 := (_, n - j, c - j)) (Blk.new w 22 _).drew (by omega) ((hcutTo.below (hw1.mono hB)).more (by omega)) ((h'.below (hw1.mono hB)).more (by omega)) ((hcut.below (hw1.mono hB)).more (by omega))
  have HUU := Lib.hid hUU
  have HW1 := Lib.hid hw1
  have hm3 : Hid (catN [xs.take j, ys, xs.drop j] 3 ≤ 17592186044416) := by show _ ≤ _; rw [HM.out]; exact hm
  clear hUU hw1 hcut hcutTo
  have q1 : IntKind.i64.wrap (j : Int) = j := IntWalk.i64_in _ (by omega)
  rcases hcase with ⟨hc1, hc2⟩ | ⟨hc1, rfl⟩
  · have HC := Lib.hid hc1
    clear hc1
    have hneg : ¬ ((j : Int) - 1 < 0) := by omega
    go_enter Try.func118, Try.ntmps118
    go_wp2_with (go_at_call 59; refine (index_any B _ _ _ xs _ _ h).mono ?_; rintro e w' ⟨rfl, rfl⟩; rw [HC.out])
    go_region_law (first
        | (go_simp; go_at_call 147; refine (concat_any (w.heap.size + 1) _ 3 3 [xs.take j, ys, xs.drop j] _ HUU.out hm3.out (by simp)).mono ?_; rintro e w2 ⟨r2, A2, c2, rfl, k1, k2, k3⟩; simp only [HM.out] at k1 ⊢)
        | (go_simp; go_at_call 91; refine (normal_any _ _ _ _ _ _ k1.rd hm (Nat.le_refl _)).mono ?_; rintro e w3 ⟨r3, A3, c3, rfl, m1, m2, m3⟩))
    go_wp2
    all_goals
      go_ret
      exact FIN.out _ _ _ _ _ (HW1.out.trans (k2.mono (by simp))) m1 m2 m3
  · have HC := Lib.hid hc1
    have huu := HUU.out
    have hw1 := HW1.out
    rw [Nat.sub_self] at huu hw1
    clear hc1 HUU HW1
    have HUU := Lib.hid huu
    have HW1 := Lib.hid hw1
    clear huu hw1
    have hneg : ((-1 : Int) < 0) := by omega
    go_enter Try.func118, Try.ntmps118
    go_wp2_with (go_at_call 59; refine (index_any B _ _ _ xs _ _ h).mono ?_; rintro e w' ⟨rfl, rfl⟩; rw [HC.out])
    go_region_law (first
        | (go_simp; go_at_call 147; refine (concat_any (w.heap.size + 1) _ 3 3 [xs.take j, ys, xs.drop j] _ HUU.out hm3.out (by simp)).mono ?_; rintro e w2 ⟨r2, A2, c2, rfl, k1, k2, k3⟩; simp only [HM.out] at k1 ⊢)
        | (go_simp; go_at_call 91; refine (normal_any _ _ _ _ _ _ k1.rd hm (Nat.le_refl _)).mono ?_; rintro e w3 ⟨r3, A3, c3, rfl, m1, m2, m3⟩))
    go_wp2
    all_goals
      go_ret
      exact FIN.out _ _ _ _ _ (HW1.out.trans (k2.mono (by simp))) m1 m2 m3
end Go.Proofs.Ytklmckbpbloonaa
