/- Parts of the proof: MakeC, MakeD, UnQ, UnE1, UnE2, UnE3, UnE4, UnE5, Legal, UnR, UnO. -/
import Derived.Test.YtklmckbpbloonaaUO7
import Derived.Test.YtklmckbpbloonaaUO5
import Derived.Test.YtklmckbpbloonaaUO6
import Derived.Test.YtklmckbpbloonaaUO2
import Derived.DeepKeys
import Derived.Test.YtklmckbpbloonaaUO1
namespace Go.Proofs.Ytklmckbpbloonaa
open Go.RowKit

theorem sameId (x y : Edg) (w : World) : Calls Try.prog 85 #[edV x, edV y] w fun e w' => e = .returned (.bool (x.1 == y.1)) ∧ Below w.heap.size w w' := by
  have HB := Lib.hid (((Below.refl w.heap.size w).alloc (Nat.le_refl _) (.cells (edC x).toArray 39)).alloc (by simp) (.cells (edC y).toArray 39))
  unfold edV edC
  go_enter Try.func85, Try.ntmps85
  go_wp2
  go_ret
  exact ⟨rfl, HB.out⟩
theorem OwnE.row {w : World} {g n c : Nat} {es : List Edg} (h : OwnE w (some g) (some ⟨g, 0, none⟩) n c es) : RowE w g c es := by
  obtain ⟨⟨⟨h1, h2, h3, _, cur, h5, h6, h7⟩, _⟩, hx⟩ := h
  rw [Ed_len] at h3
  have hn : es.length = n := by omega
  refine ⟨cur.toList.drop (n * 3), ?_, by simp [h6]; rw [hn, Nat.sub_mul], by omega, h2, hx⟩
  have e : (Ed es ++ cur.toList.drop (n * 3)).toArray = cur := by
    apply Array.toList_inj.1
    rw [← h7]
    simp
  rw [e]; exact h5
theorem RowE.own {w : World} {g c : Nat} {es : List Edg} (h : RowE w g c es) : OwnE w (some g) (some ⟨g, 0, none⟩) es.length c es := by
  obtain ⟨tail, hb, h1, h2, h3, h4⟩ := h
  have hlen := Ed_len es
  have hle : es.length * 3 ≤ c * 3 := Nat.mul_le_mul_right 3 h2
  refine ⟨⟨⟨h2, h3, hlen, rfl, _, hb, ?_, ?_⟩, fun e => by cases e⟩, h4⟩
  · simp only [List.size_toArray, List.length_append, hlen, h1, Nat.sub_mul]; omega
  · simp only [List.toList_toArray]
    rw [← hlen, List.take_left']
    rfl
theorem Chg.grow {w w' : World} {g : Nat} (h : Chg [g] w w') : w.grownBy w' (some g) := ⟨h.os, h.tape, h.output, h.size, fun k hk hne => h.block k hk (by simp; intro e; exact hne (by rw [e]))⟩
theorem OwnE.some_ {w : World} {r : Option Nat} {A : Option Addr} {n c : Nat} {es : List Edg} (h : OwnE w r A n c es) (hn : 0 < n) : ∃ g, r = some g ∧ A = some ⟨g, 0, none⟩ := by
  cases r with
  | none => have := h.1.1.cap0 rfl; have := h.1.1.1; omega
  | some g => obtain ⟨⟨⟨_, _, _, e, _⟩, _⟩, _⟩ := h; exact ⟨g, rfl, e⟩
/-- The numbers rise. -/
def Rise (es : List Edg) : Prop := ∀ p q, p < q → q < es.length → K es p < K es q
theorem rise_of {es es' : List Edg} (hd : (es.map Prod.fst).Nodup) (hp : es'.Perm es) (hs : Srt es' 0 es.length) : Rise es' := fun p q h1 h2 => by
  have hl := hp.length_eq
  have h3 := hs p q (Nat.zero_le _) h1 (by omega)
  have hd' : (es'.map Prod.fst).Nodup := (hp.map Prod.fst).nodup_iff.2 hd
  have := List.pairwise_iff_getElem.1 hd' p q (by simp; omega) (by simp; omega) h1
  simp only [List.getElem_map] at this
  rw [K_at (List.getElem?_eq_getElem (show p < es'.length by omega)), K_at (List.getElem?_eq_getElem h2)] at h3 ⊢
  omega
theorem sortE (w : World) (r : Option Nat) (A : Option Addr) (n c : Nat) (es : List Edg) (h : OwnE w r A n c es) (hn : n ≤ 100000) (hd : (es.map Prod.fst).Nodup) :
    Calls Try.prog 81 #[.slice A n c, .func (.func 82) #[] #[]] w fun e w' => e = .returned (.tuple #[]) ∧ ∃ es', OwnE w' r A n c es' ∧ es'.Perm es ∧ Rise es' ∧ w.grownBy w' r := by
  have hl := h.len
  by_cases h0 : n = 0
  · subst h0
    have he : es = [] := List.eq_nil_of_length_eq_zero hl
    refine (ss1 A 0 c _ w (by omega)).mono ?_
    rintro e w' ⟨rfl, rfl⟩
    exact ⟨rfl, es, h, List.Perm.refl _, fun p q h1 h2 => by omega, World.grownBy.refl _ _⟩
  · obtain ⟨g, rfl, rfl⟩ := h.some_ (by omega)
    have hst := stable_any g c es w h.row (by omega)
    rw [hl] at hst
    go_enter Try.func81, Try.ntmps81
    go_wp2_with (go_at_call 109; refine hst.mono ?_; rintro e w' ⟨rfl, es', r1, p1, s1, C1⟩)
    go_end0
    have ho := r1.own
    rw [p1.length_eq, hl] at ho
    exact ⟨rfl, es', ho, p1, rise_of hd p1 (by rw [hl]; exact s1), C1.grow⟩
set_option maxRecDepth 100000 in
theorem compactE (w : World) (r : Option Nat) (A : Option Addr) (n c : Nat) (es : List Edg) (h : OwnE w r A n c es) (hs : Rise es) (hsz : n ≤ 1000000) :
    Calls Try.prog 84 #[.slice A n c, .func (.func 85) #[] #[]] w fun e w' => e = .returned (.slice A n c) ∧ Below w.heap.size w w' := by
  have hl := h.len
  by_cases h0 : n < 2
  · refine (cpf1 A n c _ w h0).mono ?_
    rintro e w' ⟨rfl, rfl⟩
    exact ⟨rfl, Below.refl _ _⟩
  · obtain ⟨g, rfl, rfl⟩ := h.some_ (by omega)
    have HW := Lib.hid h.row
    obtain ⟨hc1, hc2⟩ := h.row.cap
    rw [hl] at hc1
    have hd0 : decide ((n : Int) < 2) = false := by simp; omega
    have hd1 : 2 ≤ n := by omega
    clear h h0
    obtain ⟨nn, hnn⟩ : ∃ x, n = x := ⟨_, rfl⟩
    rw [hnn] at hl hsz hc1 hd0 hd1 ⊢
    have HL := Lib.hid hl
    clear hl hnn
    go_enter Try.func84, Try.ntmps84
    go_wp2_with fail
    go_loopw [5] (fun s5 wr => ∃ k : Nat, 1 ≤ k ∧ k ≤ nn ∧ s5 = .int .i64 k ∧ RowE wr g c es ∧ Below w.heap.size w wr) (fun s5 _ => nn - (intOf s5).toNat)
    case atStart => exact ⟨1, by omega, by omega, rfl, HW.out, Below.refl _ _⟩
    case round =>
      clear HW
      obtain ⟨k, hk1, hk2, rfl, hr, hB⟩ := hrel
      have HR := Lib.hid hr
      have HB := Lib.hid hB
      clear hr hB
      by_cases hlt : k < nn
      · obtain ⟨km, hkm⟩ : ∃ km, k = km + 1 := ⟨k - 1, by omega⟩
        have hjl : k < es.length := by have := HL.out; omega
        have hjml : km < es.length := by have := HL.out; omega
        have hx : es[k]? = some es[k] := List.getElem?_eq_getElem hjl
        have hy : es[km]? = some es[km] := List.getElem?_eq_getElem hjml
        generalize es[k] = x at hx
        generalize es[km] = y at hy
        have hlt2 := hs km k (by omega) hjl
        rw [K_at hx, K_at hy] at hlt2
        have hne : (x.1 == y.1) = false := by simp; omega
        have q1 : IntKind.i64.wrap ((k : Int) - 1) = (km : Int) := by rw [IntWalk.i64_in _ (by omega)]; omega
        have q4 : IntKind.i64.wrap ((k : Int) + 1) = ((k + 1 : Nat) : Int) := by rw [IntWalk.i64_in _ (by omega)]; omega
        have q2 : k < nn := hlt
        have q3 : km < nn := by omega
        clear hkm hlt2
        go_wp2_with fail
        refine wp_region_held_drew (S := fun W => RowE W g c es) (by kernel_rfl) HR.out.drew' (fun hHeld => ?_)
        refine held_take 0 18 (.func (.func 85) #[] #[]) (by simp only [List.getElem?_toArray, List.getElem?_cons_zero]; rfl) rfl rfl (by kernel_rfl) (by kernel_rfl) (by kernel_rfl) (fun _ _ _ _ h => h) (by intro W hW; go_simp) hHeld ?_
        simp only [List.setIfInBounds_toArray, List.set_cons_zero, List.set_cons_succ]
        refine held_take 1 19 (.slice (some ⟨g, 0, none⟩) nn c) (by simp only [List.getElem?_toArray, List.getElem?_cons_succ, List.getElem?_cons_zero]; rfl) rfl rfl (by kernel_rfl) (by kernel_rfl) (by kernel_rfl) (fun _ _ _ _ h => h) (by intro W hW; go_simp) hHeld ?_
        simp only [List.setIfInBounds_toArray, List.set_cons_zero, List.set_cons_succ]
        refine held_take 2 20 (.int .i64 k) (by simp only [List.getElem?_toArray, List.getElem?_cons_succ, List.getElem?_cons_zero]; rfl) rfl rfl (by kernel_rfl) (by kernel_rfl) (by kernel_rfl) (fun _ _ _ _ h => h) (by intro W hW; go_simp) hHeld ?_
        simp only [List.setIfInBounds_toArray, List.set_cons_zero, List.set_cons_succ]
        refine held_take 3 21 (.pointer (some ⟨g, (k * 3), none⟩)) (by simp only [List.getElem?_toArray, List.getElem?_cons_succ, List.getElem?_cons_zero]; rfl) rfl rfl (by kernel_rfl) (by kernel_rfl) (by kernel_rfl) (fun _ _ _ _ h => h) (by intro W hW; go_simp) hHeld ?_
        simp only [List.setIfInBounds_toArray, List.set_cons_zero, List.set_cons_succ]
        refine held_take 4 22 (edV x) (by simp only [List.getElem?_toArray, List.getElem?_cons_succ, List.getElem?_cons_zero]; rfl) rfl rfl (by kernel_rfl) (by kernel_rfl) (by kernel_rfl) (fun _ _ _ _ h => h) (fun W hW => exec_loadE rfl rfl hW hx) hHeld ?_
        simp only [List.setIfInBounds_toArray, List.set_cons_zero, List.set_cons_succ]
        refine held_take 5 23 (.slice (some ⟨g, 0, none⟩) nn c) (by simp only [List.getElem?_toArray, List.getElem?_cons_succ, List.getElem?_cons_zero]; rfl) rfl rfl (by kernel_rfl) (by kernel_rfl) (by kernel_rfl) (fun _ _ _ _ h => h) (by intro W hW; go_simp) hHeld ?_
        simp only [List.setIfInBounds_toArray, List.set_cons_zero, List.set_cons_succ]
        refine held_take 6 24 (.int .i64 k) (by simp only [List.getElem?_toArray, List.getElem?_cons_succ, List.getElem?_cons_zero]; rfl) rfl rfl (by kernel_rfl) (by kernel_rfl) (by kernel_rfl) (fun _ _ _ _ h => h) (by intro W hW; go_simp) hHeld ?_
        simp only [List.setIfInBounds_toArray, List.set_cons_zero, List.set_cons_succ]
        refine held_take 7 25 (.int .i64 km) (by simp only [List.getElem?_toArray, List.getElem?_cons_succ, List.getElem?_cons_zero]; rfl) rfl rfl (by kernel_rfl) (by kernel_rfl) (by kernel_rfl) (fun _ _ _ _ h => h) (by intro W hW; go_simp) hHeld ?_
        simp only [List.setIfInBounds_toArray, List.set_cons_zero, List.set_cons_succ]
        refine held_take 8 26 (.pointer (some ⟨g, (km * 3), none⟩)) (by simp only [List.getElem?_toArray, List.getElem?_cons_succ, List.getElem?_cons_zero]; rfl) rfl rfl (by kernel_rfl) (by kernel_rfl) (by kernel_rfl) (fun _ _ _ _ h => h) (by intro W hW; go_simp) hHeld ?_
        simp only [List.setIfInBounds_toArray, List.set_cons_zero, List.set_cons_succ]
        refine held_take 9 27 (edV y) (by simp only [List.getElem?_toArray, List.getElem?_cons_succ, List.getElem?_cons_zero]; rfl) rfl rfl (by kernel_rfl) (by kernel_rfl) (by kernel_rfl) (fun _ _ _ _ h => h) (fun W hW => exec_loadE rfl rfl hW hy) hHeld ?_
        simp only [List.setIfInBounds_toArray, List.set_cons_zero, List.set_cons_succ]
        refine held_call 10 28 85 #[edV x, edV y] (by simp only [List.getElem?_toArray, List.getElem?_cons_succ, List.getElem?_cons_zero]; rfl) rfl rfl (by kernel_rfl) (by intro W; go_simp) ?_
        refine (sameId x y _).mono ?_
        rintro e w3 ⟨rfl, B3⟩
        have hHeld := hHeld.on B3
        refine ⟨_, rfl, hHeld, ?_⟩
        simp only [List.setIfInBounds_toArray, List.set_cons_zero, List.set_cons_succ]
        refine wpAnyH_done (by kernel_rfl) ?_ _
        go_wp2_with fail
        go_roundw
        case rel => exact ⟨k + 1, by omega, by omega, by go_num, hHeld, (HB.out.drew).trans (B3.mono HB.out.size)⟩
        case measure => simp [intOf]; omega
      · obtain rfl : k = nn := by omega
        have hd : decide ((k : Int) < (k : Int)) = false := by simp
        go_wp2_with fail
        go_ret
        exact ⟨rfl, HB.out⟩
end Go.Proofs.Ytklmckbpbloonaa

namespace Go.Proofs.Ytklmckbpbloonaa
open Go.RowKit

theorem apart_rows {w : World} {N : Nat} {r1 r2 : Option Nat} (h1 : ∀ g, r1 = some g → g < N) (h2 : ∀ g, r2 = some g → N ≤ g) : (r2 = none ∨ r2 ≠ r1) ∧ (r1 = none ∨ r1 ≠ r2) := by
  constructor
  · cases r2 with
    | none => exact .inl rfl
    | some g => right; intro e; have a := h2 g rfl; have b := h1 g e.symm; omega
  · cases r1 with
    | none => exact .inl rfl
    | some g => right; intro e; have a := h1 g rfl; have b := h2 g e.symm; omega
set_option maxRecDepth 100000 in
set_option maxHeartbeats 1000000 in
theorem make_any (B : Nat) (A A' : Option Addr) (n c n' c' : Nat) (vs : List Int) (es : List Edg) (w : World) (h : RdU w B A n c vs) (h' : RdE w B A' n' c' es) (hn : n ≤ 1000000) (hn' : n' ≤ 100000) (hd : (es.map Prod.fst).Nodup) (hB : B ≤ w.heap.size) :
    Calls Try.prog 39 #[.slice A n c, .slice A' n' c'] w fun e w' => ∃ r1 A1 c1 r2 A2 c2 es', e = .returned (.agg #[.slice A1 (cpL (sortL vs)).length c1, .slice A2 n' c2]) ∧
      OwnU w' r1 A1 (cpL (sortL vs)).length c1 (cpL (sortL vs)) ∧ OwnE w' r2 A2 n' c2 es' ∧ es'.Perm es ∧ Rise es' ∧ Below w.heap.size w w' ∧ (∀ g, r1 = some g → w.heap.size ≤ g) ∧ (∀ g, r2 = some g → w.heap.size ≤ g) := by
  have hl := h.len
  have hl' := h'.len
  have hb0 := (Below.refl w.heap.size w).alloc (Nat.le_refl _) (.cells #[.slice none 0 0, .slice none 0 0] 25)
  have HB0 := Lib.hid hb0
  have HG0 := Lib.hid (Blk.new w 25 #[.slice none 0 0, .slice none 0 0])
  have HR := Lib.hid (h.below (hb0.mono hB))
  have HR' := Lib.hid (h'.below (hb0.mono hB))
  have HD := Lib.hid hd
  clear hb0 hd
  go_enter Try.func39, Try.ntmps39
  go_wp2_with fail
  refine (cloneU B _ _ _ vs _ HR.out (by omega) (by simp; omega)).mono ?_
  rintro e w1 ⟨r1, A1, c1, rfl, k1, k2, k3⟩
  have hz1 := k2.size
  simp only [World.size_alloc] at hz1 k2 k3
  go_wp2_with fail
  refine (cloneE B _ _ _ es _ (HR'.out.below (k2.mono (by omega))) (by omega) (by omega)).mono ?_
  rintro e w2 ⟨r2, A2, c2, rfl, m1, m2, m3⟩
  have hz2 := m2.size
  have k1' := k1.below m2 (fun g hg => k1.lt g hg)
  have h1l := k1.lt
  obtain ⟨ha1, ha2⟩ := apart_rows (w := w) (N := w1.heap.size) h1l m3
  have hr1 : ∀ g, r1 = some g → w.heap.size + 1 ≤ g := k3
  have hr2 : ∀ g, r2 = some g → w.heap.size + 1 ≤ g := fun g e => Nat.le_trans hz1 (m3 g e)
  have hn1 : some w.heap.size ≠ r1 := fun e => absurd (hr1 _ e.symm) (by omega)
  have hn2 : some w.heap.size ≠ r2 := fun e => absurd (hr2 _ e.symm) (by omega)
  have hG1 := HG0.out.below k2 (by omega)
  have HG2 := Lib.hid (hG1.below m2 hG1.lt)
  clear hG1
  go_wp2_with fail
  refine (sortU _ r1 _ _ _ vs k1' (by omega)).mono ?_
  rintro e w3 ⟨rfl, q1, q2⟩
  have HQ1 := Lib.hid q1
  have HE3 := Lib.hid (m1.kept q2 ha1)
  go_wp2_with fail
  refine (sortE _ r2 _ _ _ es HE3.out hn' HD.out).mono ?_
  rintro e w4 ⟨rfl, es', s1, s2, s3, s4⟩
  have HU4 := Lib.hid (HQ1.out.kept s4 ha2)
  go_wp2_with fail
  refine (compactU _ r1 _ _ _ _ HU4.out).mono ?_
  rintro e w5 ⟨rfl, p1, p2⟩
  have HE5 := Lib.hid (s1.kept p2 ha1)
  go_wp2_with fail
  refine (compactE _ r2 _ _ _ es' HE5.out s3 (by omega)).mono ?_
  rintro e w6 ⟨rfl, B6⟩
  have hG5 := ((HG2.out.grown q2 hn1).grown s4 hn2).grown p2 hn1
  have hG6 := hG5.below B6 hG5.lt
  obtain ⟨hg0, hg1⟩ := hG6.c2
  have hf0 := hG6.frozen 0
  have hf1 := hG6.frozen 1
  have hgl := hG6.lt
  have HU6 := Lib.hid (p1.below B6 p1.lt)
  have HE6 := Lib.hid (HE5.out.below B6 HE5.out.lt)
  have hBB := (((HB0.out.trans (k2.mono (by omega))).trans (m2.mono (by omega))).grown q2 (by omega) (fun g e => by have := hr1 g e; omega)).grown s4 (by have := q2.size; omega) (fun g e => by have := hr2 g e; omega)
  have hBB2 := (hBB.grown p2 (by have := q2.size; have := s4.size; omega) (fun g e => by have := hr1 g e; omega)).trans (B6.mono (by have := q2.size; have := s4.size; have := p2.size; omega))
  have HBB := Lib.hid hBB2
  clear hBB hBB2 hG5 hG6 k1 k1' k2 k3 m1 m2 m3 q1 q2 s1 s4 p1 p2 B6
  go_wp2_with fail
  refine bodyPost_ret (v := .agg #[.slice A1 (cpL (sortL vs)).length c1, .slice A2 n' c2]) (by simp [results, Try.results39, go_sem, hg0, hg1]) rfl ?_
  refine ⟨r1, A1, c1, r2, A2, c2, es', rfl, ?_, ?_, s2, s3, ?_, fun g e => by have := hr1 g e; omega, fun g e => by have := hr2 g e; omega⟩
  · exact (HU6.out.setCell_far (p := ⟨w.heap.size, 0, none⟩) (fun g e => by have := hr1 g e; simp; omega) _).setCell_far (p := ⟨w.heap.size, 1, none⟩) (fun g e => by have := hr1 g e; simp; omega) _
  · exact (HE6.out.setCell_far (p := ⟨w.heap.size, 0, none⟩) (fun g e => by have := hr2 g e; simp; omega) _).setCell_far (p := ⟨w.heap.size, 1, none⟩) (fun g e => by have := hr2 g e; simp; omega) _
  · exact (HBB.out.setCell (p := ⟨w.heap.size, 0, none⟩) (Nat.le_refl _) _).setCell (p := ⟨w.heap.size, 1, none⟩) (Nat.le_refl _) _
end Go.Proofs.Ytklmckbpbloonaa

namespace Go.Proofs.Ytklmckbpbloonaa

section
variable {α : Type}
def stepK (key : α → Int) (v : α) (s : List α × Bool) (x : α) : List α × Bool := if !s.2 && decide (key v < key x) then (s.1 ++ [v, x], true) else (s.1 ++ [x], s.2)
def insS (key : α → Int) (v : α) : List α → List α
  | [] => [v]
  | x :: l => if key v < key x then v :: x :: l else x :: insS key v l
def finK (v : α) (s : List α × Bool) : List α := if s.2 then s.1 else s.1 ++ [v]
theorem stepK_true (key : α → Int) (v : α) : ∀ (l pre : List α), l.foldl (stepK key v) (pre, true) = (pre ++ l, true)
  | [], pre => by simp
  | x :: l, pre => by
    rw [List.foldl_cons]
    have : stepK key v (pre, true) x = (pre ++ [x], true) := by simp [stepK]
    rw [this, stepK_true key v l]; simp
theorem stepK_false (key : α → Int) (v : α) : ∀ (l pre : List α), finK v (l.foldl (stepK key v) (pre, false)) = pre ++ insS key v l
  | [], pre => by simp [finK, insS]
  | x :: l, pre => by
    rw [List.foldl_cons]
    by_cases h : key v < key x
    · have : stepK key v (pre, false) x = (pre ++ [v, x], true) := by simp [stepK, h]
      rw [this, stepK_true]; simp [finK, insS, h]
    · have : stepK key v (pre, false) x = (pre ++ [x], false) := by simp [stepK, h]
      rw [this, stepK_false key v l]; simp [insS, h]
/-- Of the first k of a row: those, with v in its place, if it has one there; whether it is in. -/
def insTo (key : α → Int) (l : List α) (v : α) (k : Nat) : List α × Bool := (l.take k).foldl (stepK key v) ([], decide (key v ∈ l.map key))
theorem insTo_succ {key : α → Int} {l : List α} {v x : α} {k : Nat} (h : l[k]? = some x) : insTo key l v (k + 1) = stepK key v (insTo key l v k) x := by
  unfold insTo
  rw [List.take_add_one, h]
  simp
theorem insTo_zero (key : α → Int) (l : List α) (v : α) : insTo key l v 0 = ([], decide (key v ∈ l.map key)) := by simp [insTo]
def putK (key : α → Int) (l : List α) (v : α) : List α := if key v ∈ l.map key then l else insS key v l
theorem insTo_all {key : α → Int} {l : List α} {v : α} {n : Nat} (hn : l.length = n) : finK v (insTo key l v n) = putK key l v := by
  subst hn
  unfold insTo putK
  rw [List.take_length]
  by_cases h : key v ∈ l.map key
  · rw [if_pos h, decide_eq_true h, stepK_true]; simp [finK]
  · rw [if_neg h, decide_eq_false h, stepK_false]; simp
theorem insS_perm (key : α → Int) (v : α) : ∀ l : List α, (insS key v l).Perm (v :: l)
  | [] => List.Perm.refl _
  | x :: l => by
    unfold insS
    split
    · exact List.Perm.refl _
    · exact ((insS_perm key v l).cons x).trans (List.Perm.swap v x l)
theorem insS_pair (key : α → Int) (v : α) : ∀ {l : List α}, l.Pairwise (fun a b => key a < key b) → key v ∉ l.map key → (insS key v l).Pairwise fun a b => key a < key b
  | [], _, _ => by simp [insS]
  | x :: l, h, hv => by
    obtain ⟨h1, h2⟩ := List.pairwise_cons.1 h
    simp only [List.map_cons, List.mem_cons, not_or] at hv
    unfold insS
    split
    · rename_i hlt
      exact List.pairwise_cons.2 ⟨fun y hy => by
        rcases List.mem_cons.1 hy with e | e
        · rw [e]; exact hlt
        · have := h1 y e; omega, h⟩
    · rename_i hlt
      refine List.pairwise_cons.2 ⟨fun y hy => ?_, insS_pair key v h2 hv.2⟩
      rcases List.mem_cons.1 ((insS_perm key v l).mem_iff.1 hy) with e | e
      · rw [e]; have := hv.1; omega
      · exact h1 y e
def makeTo (key : α → Int) (vs : List α) (k : Nat) : List α := (vs.take k).foldl (putK key) []
theorem makeTo_succ {key : α → Int} {vs : List α} {x : α} {k : Nat} (h : vs[k]? = some x) : makeTo key vs (k + 1) = putK key (makeTo key vs k) x := by
  unfold makeTo
  rw [List.take_add_one, h]
  simp
theorem putK_pair {key : α → Int} {l : List α} {v : α} (h : l.Pairwise fun a b => key a < key b) : (putK key l v).Pairwise fun a b => key a < key b := by
  unfold putK
  split
  · exact h
  · rename_i hn; exact insS_pair key v h hn
theorem foldl_pair {key : α → Int} : ∀ (vs l : List α), l.Pairwise (fun a b => key a < key b) → (vs.foldl (putK key) l).Pairwise fun a b => key a < key b
  | [], _, h => h
  | _ :: vs, _, h => foldl_pair vs _ (putK_pair h)
theorem makeTo_pair (key : α → Int) (vs : List α) (k : Nat) : (makeTo key vs k).Pairwise fun a b => key a < key b := foldl_pair _ _ List.Pairwise.nil
theorem putK_len (key : α → Int) (l : List α) (v : α) : (putK key l v).length ≤ l.length + 1 := by
  unfold putK
  split
  · omega
  · rw [(insS_perm key v l).length_eq]; simp
theorem foldl_len {key : α → Int} : ∀ (vs l : List α), (vs.foldl (putK key) l).length ≤ l.length + vs.length
  | [], _ => by simp
  | v :: vs, l => by
    have h1 := foldl_len (key := key) vs (putK key l v)
    have h2 := putK_len key l v
    simp only [List.foldl_cons, List.length_cons]; omega
theorem makeTo_len (key : α → Int) (vs : List α) (k : Nat) : (makeTo key vs k).length ≤ k := by
  have h := foldl_len (key := key) (vs.take k) []
  have h2 := List.length_take_le k vs
  unfold makeTo; simp at h; omega
theorem putK_perm {key : α → Int} {l : List α} {v : α} (h : key v ∉ l.map key) : (putK key l v).Perm (v :: l) := by
  unfold putK; rw [if_neg h]; exact insS_perm key v l
theorem foldl_perm {key : α → Int} : ∀ (vs l : List α), ((l ++ vs).map key).Nodup → (vs.foldl (putK key) l).Perm (l ++ vs)
  | [], l, _ => by simp
  | v :: vs, l, h => by
    have hv : key v ∉ l.map key := by
      rw [List.map_append, List.map_cons, List.nodup_append] at h
      intro hm
      exact h.2.2 _ hm _ List.mem_cons_self rfl
    have hp := putK_perm hv
    have h1 : (putK key l v ++ vs).Perm (l ++ v :: vs) := (hp.append_right vs).trans List.perm_middle.symm
    rw [List.foldl_cons]
    exact (foldl_perm vs _ ((h1.map key).nodup_iff.2 h)).trans h1
theorem makeTo_perm {key : α → Int} {vs : List α} (h : (vs.map key).Nodup) : (makeTo key vs vs.length).Perm vs := by
  have := foldl_perm vs [] (key := key) (by simpa using h)
  unfold makeTo; rw [List.take_length]; simpa using this
end
theorem putK_mem {l : List Int} {v x : Int} : x ∈ putK id l v ↔ x = v ∨ x ∈ l := by
  unfold putK
  split
  · rename_i h
    rw [List.map_id] at h
    constructor
    · exact .inr
    · rintro (e | e)
      · rw [e]; exact h
      · exact e
  · rw [(insS_perm id v l).mem_iff, List.mem_cons]
theorem foldl_mem : ∀ (vs l : List Int) {x : Int}, x ∈ vs.foldl (putK id) l ↔ x ∈ vs ∨ x ∈ l
  | [], l, x => by simp
  | v :: vs, l, x => by
    rw [List.foldl_cons, foldl_mem vs, putK_mem, List.mem_cons]
    constructor
    · rintro (h | h | h)
      · exact .inl (.inr h)
      · exact .inl (.inl h)
      · exact .inr h
    · rintro ((h | h) | h)
      · exact .inr (.inl h)
      · exact .inl h
      · exact .inr (.inr h)
theorem makeTo_mem {vs : List Int} {x : Int} : x ∈ makeTo id vs vs.length ↔ x ∈ vs := by
  unfold makeTo; rw [List.take_length, foldl_mem]; simp
theorem rise_eq : ∀ {l l' : List Int}, l.Pairwise (· < ·) → l'.Pairwise (· < ·) → (∀ x, x ∈ l ↔ x ∈ l') → l = l'
  | [], [], _, _, _ => rfl
  | [], b :: l', _, _, h => by have := (h b).2 List.mem_cons_self; simp at this
  | a :: l, [], _, _, h => by have := (h a).1 List.mem_cons_self; simp at this
  | a :: l, b :: l', h1, h2, h => by
    have p1 := List.pairwise_cons.1 h1
    have p2 := List.pairwise_cons.1 h2
    have e : a = b := by
      rcases List.mem_cons.1 ((h a).1 List.mem_cons_self) with e | e
      · exact e
      · rcases List.mem_cons.1 ((h b).2 List.mem_cons_self) with e' | e'
        · exact e'.symm
        · have := p1.1 b e'; have := p2.1 a e; omega
    subst e
    rw [rise_eq p1.2 p2.2 fun x => ?_]
    have := h x
    simp only [List.mem_cons] at this
    constructor
    · intro hx
      rcases this.1 (.inr hx) with e | e
      · have := p1.1 x hx; omega
      · exact e
    · intro hx
      rcases this.2 (.inr hx) with e | e
      · have := p2.1 x hx; omega
      · exact e
theorem cpL_pair {xs : List Int} (h : xs.Pairwise (· ≤ ·)) : (cpL xs).Pairwise (· < ·) := by
  unfold cpL Lib.compactUpTo
  rw [List.pairwise_map, List.pairwise_filter]
  have hr : (List.range xs.toArray.size).Pairwise (· < ·) := List.pairwise_lt_range
  refine List.Pairwise.imp_of_mem (fun {i j} hi hj hij _ hk => ?_) hr
  have hi' : i < xs.length := by simpa using hi
  have hj' : j < xs.length := by simpa using hj
  have hle : ∀ a b, a ≤ b → (hb : b < xs.length) → xs[a]! ≤ xs[b]! := fun a b hab hb => by
    rcases Nat.lt_or_ge a b with hl | hg
    · have := List.pairwise_iff_getElem.1 h a b (by omega) hb hl
      rw [getElem!_pos xs a (by omega), getElem!_pos xs b hb]; exact this
    · have : a = b := by omega
      rw [this]; exact Int.le_refl _
  unfold Lib.keeps at hk
  simp only [decide_eq_true_eq] at hk
  have e1 : ∀ a : Nat, xs.toArray[a]! = xs[a]! := fun a => by simp
  rw [e1, e1]
  rcases hk with hk | hk
  · omega
  · rw [e1, e1] at hk
    have h1 := hle i (j - 1) (by omega) (by omega)
    have h2 := hle (j - 1) j (by omega) hj'
    omega
theorem cpL_all {xs : List Int} {x : Int} (h : x ∈ xs) : x ∈ cpL xs := by
  unfold cpL Lib.compactUpTo
  have key : ∀ j, j < xs.length → xs[j]! = x → x ∈ ((List.range xs.toArray.size).filter (Lib.keeps xs.toArray)).map (xs.toArray[·]!) := by
    intro j
    induction j with
    | zero =>
      intro hj e
      refine List.mem_map.2 ⟨0, List.mem_filter.2 ⟨by simpa using hj, by simp [Lib.keeps]⟩, by simpa using e⟩
    | succ j ih =>
      intro hj e
      by_cases hp : xs[j]! = x
      · exact ih (by omega) hp
      · refine List.mem_map.2 ⟨j + 1, List.mem_filter.2 ⟨by simpa using hj, ?_⟩, by simpa using e⟩
        unfold Lib.keeps
        simp only [decide_eq_true_eq]
        right
        have e1 : ∀ a : Nat, xs.toArray[a]! = xs[a]! := fun a => by simp
        rw [e1, e1, e, Nat.add_sub_cancel]
        exact fun h => hp h.symm
  obtain ⟨j, hj, e⟩ := List.mem_iff_getElem.1 h
  exact key j hj (by rw [getElem!_pos xs j hj]; exact e)
theorem makeV_eq (vs : List Int) : makeTo id vs vs.length = cpL (sortL vs) := by
  refine rise_eq (makeTo_pair id vs _) (cpL_pair (sortL_sorted vs)) fun x => ?_
  rw [makeTo_mem]
  constructor
  · intro h; exact cpL_all ((List.mergeSort_perm _ _).mem_iff.2 h)
  · intro h; exact (List.mergeSort_perm _ _).mem_iff.1 (cpL_mem h)
theorem makeE_eq {es es' : List Edg} (hd : (es.map Prod.fst).Nodup) (hp : es'.Perm es) (hr : Rise es') : es' = makeTo Prod.fst es es.length :=
  rise_unique (rise_pair hr) (makeTo_pair Prod.fst es _) (hp.trans (makeTo_perm hd).symm)
end Go.Proofs.Ytklmckbpbloonaa

namespace Go.Proofs.Ytklmckbpbloonaa
open Go.RowKit

def hasE (es : List Edg) (x : Edg) : Bool := decide (x ∈ es)
theorem keyEd : Try.prog.keyTypeAt 3 39 = true := by kernel_rfl
def litE (e : Edg) : List Lit := [.int .u32 e.1, .int .u32 e.2.1, .int .u32 e.2.2]
theorem litE_inj {x y : Edg} (h : litE x = litE y) : x = y := by
  simp only [litE, List.cons.injEq, Lit.int.injEq, true_and, and_true] at h
  exact Prod.ext h.1 (Prod.ext h.2.1 h.2.2)
theorem cellsEd : Try.prog.cellsOf 39 = 3 := by kernel_rfl
theorem cellsU32 : Try.prog.cellsOf 31 = 1 := by kernel_rfl
theorem wf32 {x : Int} (h : 0 ≤ x ∧ x < 4294967296) : (Lit.int .u32 x).wf = true := by
  simp [Lit.wf, IntKind.min, IntKind.max, IntKind.bits, IntKind.signed]; omega
theorem keyLitsU32 {x : Int} (h : 0 ≤ x ∧ x < 4294967296) : Try.prog.keyLits 1 31 [Value.int .u32 x] = some [Lit.int .u32 x] := by
  unfold Program.keyLits
  rw [Try.underlying31]
  simp only [wf32 h, and_self, if_true]
set_option maxRecDepth 100000 in
theorem keyLitsE {x : Edg} (h : okE x) : Try.prog.keyLits 2 39 (edC x) = some (litE x) := by
  have h1 := keyLitsU32 h.1
  have h2 := keyLitsU32 h.2.1
  have h3 := keyLitsU32 h.2.2
  unfold Program.keyLits
  rw [Try.underlying39]
  have hl : (edC x).length = 3 := rfl
  simp only [hl, cellsEd]
  simp [edC, cellsU32, h1, h2, h3, litE]
theorem formE (x : Edg) : (edV x).formed Try.prog 39 = true := by
  unfold Value.formed edV
  rw [Try.underlying39, cellsEd]
  rfl
/-- '==' at two edges. -/
theorem equalE {x y : Edg} (h : okE x) (h' : okE y) (w : World) : (Op.equalIn 10000 39 (edV x) (edV y)).run Try.prog w = .ok (decide (x = y)) w := by
  obtain ⟨r, hr, hiff⟩ := run_equalIn_deep (P := Try.prog) 9997 3 39 keyEd w 2 2 (edV x) (edV y) (litE x) (litE y) (formE x) (formE y) (keyLitsE h) (keyLitsE h')
  have e : r = decide (x = y) := by
    rw [Bool.eq_iff_iff, hiff, decide_eq_true_iff]
    exact ⟨litE_inj, fun e => by rw [e]⟩
  rw [← e]; exact hr
def idxE (es : List Edg) (x : Edg) : Int := if x ∈ es then (es.idxOf x : Int) else -1
theorem idxE_miss {es : List Edg} {x : Edg} (h : ∀ j, j < es.length → es[j]? ≠ some x) : idxE es x = -1 := by
  unfold idxE
  rw [if_neg]
  intro hm
  obtain ⟨j, hj, e⟩ := List.getElem_of_mem hm
  exact h j hj (by rw [List.getElem?_eq_getElem hj, e])
theorem idxE_hit {es : List Edg} {x : Edg} {k : Nat} (hj : ∀ j, j < k → es[j]? ≠ some x) (hk : es[k]? = some x) : idxE es x = k := by
  have hm : x ∈ es := List.mem_of_getElem? hk
  have hkl := (List.getElem?_eq_some_iff.1 hk).1
  unfold idxE
  rw [if_pos hm]
  have hl := List.idxOf_lt_length_of_mem hm
  have e1 : es[es.idxOf x]? = some x := by rw [List.getElem?_eq_getElem hl]; simp
  have h1 : ¬ es.idxOf x < k := fun h => hj _ h e1
  have h2 : ¬ k < es.idxOf x := fun h => by
    have := List.not_of_lt_findIdx (p := (· == x)) (xs := es) (i := k) h
    rw [(List.getElem?_eq_some_iff.1 hk).2] at this
    simp at this
  omega
theorem hasE_idx (es : List Edg) (x : Edg) : decide (0 ≤ idxE es x) = hasE es x := by
  unfold hasE idxE
  by_cases h : x ∈ es
  · rw [if_pos h]; simp [h]
  · rw [if_neg h]; simp [h]
end Go.Proofs.Ytklmckbpbloonaa

namespace Go.Proofs.Ytklmckbpbloonaa
open Go.RowKit

set_option maxRecDepth 100000 in
theorem indexE_any (B : Nat) (A : Option Addr) (n c : Nat) (es : List Edg) (x : Edg) (w : World) (h : RdE w B A n c es) (hx : okE x) (hB : B ≤ w.heap.size) :
    Calls Try.prog 120 #[.slice A n c, edV x] w fun e w' => e = .returned (.int .i64 (idxE es x)) ∧ Below w.heap.size w w' := by
  have hl := h.len
  obtain ⟨hn, hc⟩ := h.bd
  obtain ⟨w1, hw1⟩ : ∃ w1, w1 = w.alloc (.cells (edC x).toArray 39) := ⟨_, rfl⟩
  have HB1 : Hid (Below w.heap.size w w1) := by show Below _ _ _; rw [hw1]; exact (Below.refl w.heap.size w).alloc (Nat.le_refl _) _
  have HX1 : Hid (Blk w1 w.heap.size 39 (edC x).toArray) := by show Blk _ _ _ _; rw [hw1]; exact Blk.new w _ _
  have HR1 := Lib.hid (h.below (HB1.out.mono hB))
  have HXO := Lib.hid hx
  have HL := Lib.hid hl
  have hs1 : w1.heap.size = w.heap.size + 1 := by rw [hw1]; simp
  have HW1 := Lib.hid hw1
  have HS1 := Lib.hid hs1
  clear h hx hl hw1 hs1
  rw [show edV x = .agg #[.int .u32 x.1, .int .u32 x.2.1, .int .u32 x.2.2] from rfl]
  go_enter Try.func120, Try.ntmps120
  go_wp2_with fail
  rw [show w.alloc (.cells #[.int .u32 x.1, .int .u32 x.2.1, .int .u32 x.2.2] 39) = w1 from HW1.out.symm]
  go_loopw [5, 8] (fun _ s8 wr => ∃ k : Nat, k ≤ n ∧ s8 = .int .i64 k ∧ Below (w.heap.size + 1) w1 wr ∧ Hid (∀ j, j < k → es[j]? ≠ some x)) (fun _ s8 _ => n - (intOf s8).toNat)
  case atStart => exact ⟨0, by omega, rfl, Below.refl _ _, fun j hj => by omega⟩
  case round =>
    obtain ⟨k, hk, rfl, hB1, hM⟩ := hrel
    by_cases hlt : k < n
    · obtain ⟨ad, y, rfl, hbl, hy, hyo, hc1, hc2, hc3⟩ := HR1.out.at_ hlt
      have hbox : ∀ W, Below (w.heap.size + 1) w1 W → W.cell? ⟨w.heap.size, 0, none⟩ = some (.int .u32 x.1) ∧ W.cell? ⟨w.heap.size, 1, none⟩ = some (.int .u32 x.2.1) ∧ W.cell? ⟨w.heap.size, 2, none⟩ = some (.int .u32 x.2.2) := fun W hW => by
        have := HX1.out.below hW (by omega)
        exact ⟨this.cell 0, this.cell 1, this.cell 2⟩
      have hrow : ∀ W, Below (w.heap.size + 1) w1 W → W.cell? (ad.add (k * 3)) = some (.int .u32 y.1) ∧ W.cell? ⟨(ad.add (k * 3)).block, (ad.add (k * 3)).off + 1, none⟩ = some (.int .u32 y.2.1) ∧ W.cell? ⟨(ad.add (k * 3)).block, (ad.add (k * 3)).off + 2, none⟩ = some (.int .u32 y.2.2) := fun W hW => by
        have hbk : (ad.add (k * 3)).block = ad.block := block_of_add _ _
        exact ⟨(hW.cell (by rw [hbk]; omega)).trans hc1, (hW.cell (by show (ad.add (k * 3)).block < _; rw [hbk]; omega)).trans hc2, (hW.cell (by show (ad.add (k * 3)).block < _; rw [hbk]; omega)).trans hc3⟩
      have HY := Lib.hid hy
      have heq0 := fun W => equalE HXO.out hyo W
      clear hy hc1 hc2 hc3
      have hB := hB1
      by_cases e : x = y
      · have heq : ∀ W, (Op.equalIn 10000 39 (edV x) (edV y)).run Try.prog W = .ok true W := fun W => by rw [heq0, decide_eq_true e]
        have HE := Lib.hid e
        clear heq0 e
        go_wp2_with fail
        refine wp_region_held_drew (S := fun W => Below (w.heap.size + 1) w1 W) (by kernel_rfl) hB.drew (fun hHeld => ?_)
        refine held_take 0 11 (edV x) (by simp only [List.getElem?_toArray, List.getElem?_cons_zero]; rfl) rfl rfl (by kernel_rfl) (by kernel_rfl) (by kernel_rfl) (fun _ _ _ _ h => h) (by intro W hW; obtain ⟨z1, z2, z3⟩ := hbox W hW; unfold edV edC; go_simp) hHeld ?_
        simp only [List.setIfInBounds_toArray, List.set_cons_zero, List.set_cons_succ]
        refine held_take 1 12 (.slice (some ad) n c) (by simp only [List.getElem?_toArray, List.getElem?_cons_succ, List.getElem?_cons_zero]; rfl) rfl rfl (by kernel_rfl) (by kernel_rfl) (by kernel_rfl) (fun _ _ _ _ h => h) (by intro W hW; go_simp) hHeld ?_
        simp only [List.setIfInBounds_toArray, List.set_cons_zero, List.set_cons_succ]
        refine held_take 2 13 (.int .i64 k) (by simp only [List.getElem?_toArray, List.getElem?_cons_succ, List.getElem?_cons_zero]; rfl) rfl rfl (by kernel_rfl) (by kernel_rfl) (by kernel_rfl) (fun _ _ _ _ h => h) (by intro W hW; go_simp) hHeld ?_
        simp only [List.setIfInBounds_toArray, List.set_cons_zero, List.set_cons_succ]
        refine held_take 3 14 (.pointer (some (ad.add (k * 3)))) (by simp only [List.getElem?_toArray, List.getElem?_cons_succ, List.getElem?_cons_zero]; rfl) rfl rfl (by kernel_rfl) (by kernel_rfl) (by kernel_rfl) (fun _ _ _ _ h => h) (by intro W hW; go_simp) hHeld ?_
        simp only [List.setIfInBounds_toArray, List.set_cons_zero, List.set_cons_succ]
        refine held_take 4 15 (edV y) (by simp only [List.getElem?_toArray, List.getElem?_cons_succ, List.getElem?_cons_zero]; rfl) rfl rfl (by kernel_rfl) (by kernel_rfl) (by kernel_rfl) (fun _ _ _ _ h => h) (by intro W hW; obtain ⟨z1, z2, z3⟩ := hrow W hW; unfold edV edC; go_simp) hHeld ?_
        simp only [List.setIfInBounds_toArray, List.set_cons_zero, List.set_cons_succ]
        refine held_take 5 16 (.bool true) (by simp only [List.getElem?_toArray, List.getElem?_cons_succ, List.getElem?_cons_zero]; rfl) rfl rfl (by kernel_rfl) (by kernel_rfl) (by kernel_rfl) (fun _ _ _ _ h => h) (by intro W hW; unfold edV edC; go_simp; simp [HE.out]) hHeld ?_
        simp only [List.setIfInBounds_toArray, List.set_cons_zero, List.set_cons_succ]
        refine wpAnyH_done (by kernel_rfl) ?_ _
        go_wp2_with fail
        go_ret
        refine ⟨ret_int ?_, HB1.out.trans (hHeld.mono (by omega))⟩
        exact (idxE_hit hM.out (by rw [HE.out]; exact HY.out)).symm
      · have heq : ∀ W, (Op.equalIn 10000 39 (edV x) (edV y)).run Try.prog W = .ok false W := fun W => by rw [heq0, decide_eq_false e]
        have HE := Lib.hid e
        clear heq0 e
        go_wp2_with fail
        refine wp_region_held_drew (S := fun W => Below (w.heap.size + 1) w1 W) (by kernel_rfl) hB.drew (fun hHeld => ?_)
        refine held_take 0 11 (edV x) (by simp only [List.getElem?_toArray, List.getElem?_cons_zero]; rfl) rfl rfl (by kernel_rfl) (by kernel_rfl) (by kernel_rfl) (fun _ _ _ _ h => h) (by intro W hW; obtain ⟨z1, z2, z3⟩ := hbox W hW; unfold edV edC; go_simp) hHeld ?_
        simp only [List.setIfInBounds_toArray, List.set_cons_zero, List.set_cons_succ]
        refine held_take 1 12 (.slice (some ad) n c) (by simp only [List.getElem?_toArray, List.getElem?_cons_succ, List.getElem?_cons_zero]; rfl) rfl rfl (by kernel_rfl) (by kernel_rfl) (by kernel_rfl) (fun _ _ _ _ h => h) (by intro W hW; go_simp) hHeld ?_
        simp only [List.setIfInBounds_toArray, List.set_cons_zero, List.set_cons_succ]
        refine held_take 2 13 (.int .i64 k) (by simp only [List.getElem?_toArray, List.getElem?_cons_succ, List.getElem?_cons_zero]; rfl) rfl rfl (by kernel_rfl) (by kernel_rfl) (by kernel_rfl) (fun _ _ _ _ h => h) (by intro W hW; go_simp) hHeld ?_
        simp only [List.setIfInBounds_toArray, List.set_cons_zero, List.set_cons_succ]
        refine held_take 3 14 (.pointer (some (ad.add (k * 3)))) (by simp only [List.getElem?_toArray, List.getElem?_cons_succ, List.getElem?_cons_zero]; rfl) rfl rfl (by kernel_rfl) (by kernel_rfl) (by kernel_rfl) (fun _ _ _ _ h => h) (by intro W hW; go_simp) hHeld ?_
        simp only [List.setIfInBounds_toArray, List.set_cons_zero, List.set_cons_succ]
        refine held_take 4 15 (edV y) (by simp only [List.getElem?_toArray, List.getElem?_cons_succ, List.getElem?_cons_zero]; rfl) rfl rfl (by kernel_rfl) (by kernel_rfl) (by kernel_rfl) (fun _ _ _ _ h => h) (by intro W hW; obtain ⟨z1, z2, z3⟩ := hrow W hW; unfold edV edC; go_simp) hHeld ?_
        simp only [List.setIfInBounds_toArray, List.set_cons_zero, List.set_cons_succ]
        refine held_take 5 16 (.bool false) (by simp only [List.getElem?_toArray, List.getElem?_cons_succ, List.getElem?_cons_zero]; rfl) rfl rfl (by kernel_rfl) (by kernel_rfl) (by kernel_rfl) (fun _ _ _ _ h => h) (by intro W hW; unfold edV edC; go_simp; exact fun h1 h2 h3 => HE.out (Prod.ext h1 (Prod.ext h2 h3))) hHeld ?_
        simp only [List.setIfInBounds_toArray, List.set_cons_zero, List.set_cons_succ]
        refine wpAnyH_done (by kernel_rfl) ?_ _
        go_wp2_with fail
        go_roundw
        case rel =>
          refine ⟨k + 1, by omega, by go_num, hHeld, fun j hj e => ?_⟩
          by_cases ejk : j = k
          · subst ejk
            rw [HY.out] at e
            exact HE.out (Option.some.inj e).symm
          · exact hM.out j (by omega) e
        case measure => simp [intOf]; omega
    · obtain rfl : k = n := by omega
      have hd : decide ((k : Int) < (k : Int)) = false := by simp
      go_wp2_with fail
      go_ret
      exact ⟨ret_int (idxE_miss (by rw [HL.out]; exact hM.out)).symm, HB1.out.trans (hB1.mono (by omega))⟩
end Go.Proofs.Ytklmckbpbloonaa

namespace Go.Proofs.Ytklmckbpbloonaa
open Go.RowKit

theorem edV_lit (x : Edg) : (Value.agg #[.int .u32 x.1, .int .u32 x.2.1, .int .u32 x.2.2]) = edV x := rfl
set_option maxRecDepth 100000 in
theorem containsE_any (B : Nat) (A : Option Addr) (n c : Nat) (es : List Edg) (x : Edg) (w : World) (h : RdE w B A n c es) (hx : okE x) (hB : B ≤ w.heap.size) :
    Calls Try.prog 102 #[.slice A n c, edV x] w fun e w' => e = .returned (.bool (hasE es x)) ∧ Below w.heap.size w w' := by
  have hb1 := (Below.refl w.heap.size w).alloc (Nat.le_refl _) (.cells #[.int .u32 x.1, .int .u32 x.2.1, .int .u32 x.2.2] 39)
  have hix := indexE_any B A n c es x _ (h.below (hb1.mono hB)) hx (by simp; omega)
  rw [← edV_lit] at hix ⊢
  have HB1 := Lib.hid hb1
  clear hb1
  go_enter Try.func102, Try.ntmps102
  go_wp2_with (go_at_call 120; refine hix.mono ?_; rintro e w2 ⟨rfl, B2⟩)
  go_ret
  exact ⟨ret_bool (by rw [← hasE_idx]), HB1.out.trans (B2.mono (by simp))⟩
set_option maxRecDepth 100000 in
theorem hasE1_any (B : Nat) (A : Option Addr) (n c : Nat) (es : List Edg) (x : Edg) (w : World) (h : RdE w B A n c es) (hx : okE x) (hB : B ≤ w.heap.size) :
    Calls Try.prog 101 #[.slice A n c, edV x] w fun e w' => e = .returned (.bool (hasE es x)) ∧ Below w.heap.size w w' := by
  have hb1 := (Below.refl w.heap.size w).alloc (Nat.le_refl _) (.cells #[.int .u32 x.1, .int .u32 x.2.1, .int .u32 x.2.2] 39)
  have hix := containsE_any B A n c es x _ (h.below (hb1.mono hB)) hx (by simp; omega)
  rw [← edV_lit] at hix ⊢
  have HB1 := Lib.hid hb1
  clear hb1
  go_enter Try.func101, Try.ntmps101
  go_wp2_with (go_at_call 102; refine hix.mono ?_; rintro e w2 ⟨rfl, B2⟩)
  go_ret
  exact ⟨rfl, HB1.out.trans (B2.mono (by simp))⟩
end Go.Proofs.Ytklmckbpbloonaa

namespace Go.Proofs.Ytklmckbpbloonaa
open Go.RowKit

def fltE (es : List Edg) (p : Edg → Bool) (k : Nat) : List Edg := (es.take k).filter p
def fltEN (es : List Edg) (p : Edg → Bool) (k : Nat) : Nat := (fltE es p k).length
theorem takeE_at {es : List Edg} {k : Nat} {x : Edg} (h : es[k]? = some x) : es.take (k + 1) = es.take k ++ [x] := by
  rw [List.take_add_one, h]; rfl
theorem fltE_succ {es : List Edg} {p : Edg → Bool} {k : Nat} {x : Edg} (h : es[k]? = some x) : fltE es p (k + 1) = fltE es p k ++ if p x then [x] else [] := by
  unfold fltE; rw [takeE_at h, List.filter_append]
  congr 1
  cases hp : p x <;> simp [hp]
theorem fltEN_succ {es : List Edg} {p : Edg → Bool} {k : Nat} {x : Edg} (h : es[k]? = some x) : fltEN es p (k + 1) = fltEN es p k + if p x then 1 else 0 := by
  unfold fltEN; rw [fltE_succ h]; cases hp : p x <;> simp
theorem fltEN_le (es : List Edg) (p : Edg → Bool) (k : Nat) : fltEN es p k ≤ k := by
  have h1 := List.length_filter_le p (es.take k)
  have h2 := List.length_take_le k es
  unfold fltEN fltE; omega
theorem fltE_all (es : List Edg) (p : Edg → Bool) {n : Nat} (hn : es.length = n) : fltE es p n = es.filter p := by subst hn; unfold fltE; rw [List.take_length]
def pAE (base theirs : List Edg) (x : Edg) : Bool := hasE theirs x || !hasE base x
def pBE (base ours : List Edg) (x : Edg) : Bool := !hasE ours x && !hasE base x
def allE (base ours theirs : List Edg) : List Edg := ours.filter (pAE base theirs) ++ theirs.filter (pBE base ours)
def allETo (base ours theirs : List Edg) (n m : Nat) : List Edg := fltE ours (pAE base theirs) n ++ fltE theirs (pBE base ours) m
def allETN (base ours theirs : List Edg) (n m : Nat) : Nat := fltEN ours (pAE base theirs) n + fltEN theirs (pBE base ours) m
theorem allETo_all (base ours theirs : List Edg) {n m : Nat} (hn : ours.length = n) (hm : theirs.length = m) : allETo base ours theirs n m = allE base ours theirs := by
  unfold allETo allE; rw [fltE_all _ _ hn, fltE_all _ _ hm]
theorem allETo_zero (base ours theirs : List Edg) (n : Nat) : allETo base ours theirs n 0 = fltE ours (pAE base theirs) n := by simp [allETo, fltE]
theorem allETN_zero (base ours theirs : List Edg) (n : Nat) : allETN base ours theirs n 0 = fltEN ours (pAE base theirs) n := by simp [allETN, fltEN, fltE]
theorem allETo_len (base ours theirs : List Edg) (n m : Nat) : (allETo base ours theirs n m).length = allETN base ours theirs n m := by simp [allETo, allETN, fltEN]
set_option maxRecDepth 100000 in
set_option maxHeartbeats 4000000 in
theorem allE_any (B : Nat) (Ab Ao At : Option Addr) (nb cb no co nt ct : Nat) (base ours theirs : List Edg) (w : World) (hb : RdE w B Ab nb cb base) (ho : RdE w B Ao no co ours) (ht : RdE w B At nt ct theirs) (hno : no ≤ 1000000) (hnt : nt ≤ 1000000) (hB : B ≤ w.heap.size) :
    Calls Try.prog 69 #[.agg #[.slice Ab nb cb, .slice Ao no co, .slice At nt ct]] w fun e w' => ∃ r A c, e = .returned (.slice A (allE base ours theirs).length c) ∧ OwnE w' r A (allE base ours theirs).length c (allE base ours theirs) ∧ Below w.heap.size w w' ∧ (∀ g, r = some g → w.heap.size ≤ g) := by
  obtain ⟨hno', hco⟩ := ho.bd
  obtain ⟨hnt', hct⟩ := ht.bd
  have HLo := Lib.hid ho.len
  have HLt := Lib.hid ht.len
  have hX0 := Blk.new w 86 #[.slice Ab nb cb, .slice Ao no co, .slice At nt ct]
  have HB0 := Lib.hid ((Below.refl w.heap.size w).alloc (Nat.le_refl _) (.cells #[.slice Ab nb cb, .slice Ao no co, .slice At nt ct] 86))
  go_enter Try.func69, Try.ntmps69
  go_wp2_with fail
  go_loopw [4, 6, 12] (fun o _ i wr => ∃ (k : Nat) (r : Option Nat) (A : Option Addr) (c : Nat), k ≤ no ∧ i = .int .i64 k ∧ o = .slice A (fltEN ours (pAE base theirs) k) c ∧ OwnE wr r A (fltEN ours (pAE base theirs) k) c (fltE ours (pAE base theirs) k) ∧ (∀ g, r = some g → w.heap.size < g) ∧ Below w.heap.size w wr ∧ Blk wr w.heap.size 86 #[.slice Ab nb cb, .slice Ao no co, .slice At nt ct]) (fun _ _ i _ => no - (intOf i).toNat)
  case atStart => exact ⟨0, none, none, 0, by omega, rfl, by simp [fltEN, fltE], by simpa [fltEN, fltE] using OwnE.nil_ _ _, by simp, HB0.out, hX0⟩
  case round =>
    clear hX0 HB0
    obtain ⟨k, r, A, c, hk, rfl, rfl, hown, hr, hbr, hX⟩ := hrel
    by_cases hlt : k < no
    · have hqo := ho.below (hbr.mono hB)
      obtain ⟨ad, x, rfl, hbl, hx, hxb, hc1, hc2, hc3⟩ := hqo.at_ hlt
      have HX := Lib.hid hx
      have HO := Lib.hid hown
      have HBR := Lib.hid hbr
      have hsz := hX.lt
      have HXB := Lib.hid (hX.alloc (.cells #[.int .u32 x.1, .int .u32 x.2.1, .int .u32 x.2.2] 39))
      obtain ⟨hx0, hx1, hx2⟩ := hX.c3
      clear hx hown hqo hbr
      have HN : Hid (fltEN ours (pAE base theirs) (k + 1) = fltEN ours (pAE base theirs) k + if pAE base theirs x then 1 else 0) := fltEN_succ HX.out
      have HT : Hid (fltE ours (pAE base theirs) (k + 1) = fltE ours (pAE base theirs) k ++ if pAE base theirs x then [x] else []) := fltE_succ HX.out
      have hle := fltEN_le ours (pAE base theirs) k
      have HB1 := Lib.hid (HBR.out.alloc HBR.out.size (.cells #[.int .u32 x.1, .int .u32 x.2.1, .int .u32 x.2.2] 39))
      have HZ := Lib.hid (Blk.new wr 39 #[.int .u32 x.1, .int .u32 x.2.1, .int .u32 x.2.2])
      go_wp2_with fail
      rw [edV_lit]
      refine (hasE1_any B _ _ _ theirs x _ (ht.below (HB1.out.mono hB)) hxb (by have := HB1.out.size; omega)).mono ?_
      rintro e w2 ⟨rfl, B2⟩
      have BXw2 := HZ.out.below B2 (by simp)
      have OXw2 := (HO.out.alloc (.cells #[.int .u32 x.1, .int .u32 x.2.1, .int .u32 x.2.2] 39)).below B2 (HO.out.alloc (.cells #[.int .u32 x.1, .int .u32 x.2.1, .int .u32 x.2.2] 39)).lt
      have HXw2 := HXB.out.below B2 HXB.out.lt
      have BRw2 := HB1.out.trans (B2.mono HB1.out.size)
      clear B2
      cases h1 : hasE theirs x
      · obtain ⟨v0, v1, v2⟩ := HXw2.c3
        obtain ⟨b0, b1, b2⟩ := BXw2.c3
        have H1 := Lib.hid h1
        clear h1
        go_wp2_with fail
        rw [edV_lit]
        refine (hasE1_any B _ _ _ base x _ (hb.below (BRw2.mono hB)) hxb (by have := BRw2.size; omega)).mono ?_
        rintro e w3 ⟨rfl, B3⟩
        have BXw3 := BXw2.below B3 BXw2.lt
        have OXw3 := OXw2.below B3 OXw2.lt
        have HXw3 := HXw2.below B3 HXw2.lt
        have BRw3 := BRw2.trans (B3.mono BRw2.size)
        clear B3
        cases h2 : hasE base x
        · have H2 := Lib.hid h2
          clear h2
          have HY := Lib.hid (BXw3.alloc (.cells #[.int .u32 x.1, .int .u32 x.2.1, .int .u32 x.2.2] 39))
          have HO3 := Lib.hid (OXw3.alloc (.cells #[.int .u32 x.1, .int .u32 x.2.1, .int .u32 x.2.2] 39))
          have HH3 := Lib.hid (HXw3.alloc (.cells #[.int .u32 x.1, .int .u32 x.2.1, .int .u32 x.2.2] 39))
          have HB3 := Lib.hid (BRw3.alloc BRw3.size (.cells #[.int .u32 x.1, .int .u32 x.2.1, .int .u32 x.2.2] 39))
          obtain ⟨y0, y1, y2⟩ := BXw3.c3
          go_wp2_with (first
            | (at_builtin; refine appE1 rfl (.tmp 29) (.tmp 31) rfl _ r _ _ c (fltE ours (pAE base theirs) k) rfl HO3.out w3.heap.size x rfl (Blk.new _ _ _) hxb (by omega) ?_; intro r3 A3 c3 w5 m1 m2 m3))
          go_roundw
          case rel =>
            have hp : pAE base theirs x = true := by simp [pAE, H1.out, H2.out]
            have hr3 : ∀ g, r3 = some g → w.heap.size < g := fun g e => by
              rcases m3 with h3 | h3
              · exact hr g (by rw [← h3, e])
              · have := h3 g e; have := HB3.out.size; have := HH3.out.lt; simp at *; omega
            have hN := HN.out
            have hT := HT.out
            rw [hp] at hN hT
            simp only [if_true] at hN hT
            exact ⟨k + 1, r3, A3, c3, by omega, by go_num, by rw [hN], by rw [hN, hT]; exact m1, hr3, HB3.out.grown m2 HB3.out.size (fun g e => by have := hr g e; omega), HH3.out.grown m2 (fun e => by have := hr _ e.symm; omega)⟩
          case measure => simp [intOf]; omega
        · have H2 := Lib.hid h2
          clear h2
          go_wp2_with fail
          go_roundw
          case rel =>
            have hp : pAE base theirs x = false := by simp [pAE, H1.out, H2.out]
            have hN := HN.out
            have hT := HT.out
            rw [hp] at hN hT
            simp only [Bool.false_eq_true, if_false, Nat.add_zero, List.append_nil] at hN hT
            exact ⟨k + 1, r, A, c, by omega, by go_num, by rw [hN], by rw [hN, hT]; exact OXw3, hr, BRw3, HXw3⟩
          case measure => simp [intOf]; omega
      · have H1 := Lib.hid h1
        clear h1
        have HY := Lib.hid (BXw2.alloc (.cells #[.int .u32 x.1, .int .u32 x.2.1, .int .u32 x.2.2] 39))
        have HO3 := Lib.hid (OXw2.alloc (.cells #[.int .u32 x.1, .int .u32 x.2.1, .int .u32 x.2.2] 39))
        have HH3 := Lib.hid (HXw2.alloc (.cells #[.int .u32 x.1, .int .u32 x.2.1, .int .u32 x.2.2] 39))
        have HB3 := Lib.hid (BRw2.alloc BRw2.size (.cells #[.int .u32 x.1, .int .u32 x.2.1, .int .u32 x.2.2] 39))
        obtain ⟨y0, y1, y2⟩ := BXw2.c3
        go_wp2_with (first
          | (at_builtin; refine appE1 rfl (.tmp 29) (.tmp 31) rfl _ r _ _ c (fltE ours (pAE base theirs) k) rfl HO3.out w2.heap.size x rfl (Blk.new _ _ _) hxb (by omega) ?_; intro r3 A3 c3 w5 m1 m2 m3))
        go_roundw
        case rel =>
          have hp : pAE base theirs x = true := by simp [pAE, H1.out]
          have hr3 : ∀ g, r3 = some g → w.heap.size < g := fun g e => by
            rcases m3 with h3 | h3
            · exact hr g (by rw [← h3, e])
            · have := h3 g e; have := HB3.out.size; have := HH3.out.lt; simp at *; omega
          have hN := HN.out
          have hT := HT.out
          rw [hp] at hN hT
          simp only [if_true] at hN hT
          exact ⟨k + 1, r3, A3, c3, by omega, by go_num, by rw [hN], by rw [hN, hT]; exact m1, hr3, HB3.out.grown m2 HB3.out.size (fun g e => by have := hr g e; omega), HH3.out.grown m2 (fun e => by have := hr _ e.symm; omega)⟩
        case measure => simp [intOf]; omega
    · obtain rfl : k = no := by omega
      obtain ⟨wo, rfl⟩ : ∃ wo : World, wo = wr := ⟨_, rfl⟩
      rw [← allETN_zero base ours theirs] at hown ⊢
      rw [← allETo_zero] at hown
      have HOW := Lib.hid hown
      obtain ⟨hx0, hx1, hx2⟩ := hX.c3
      clear hown
      go_wp2_with fail
      go_loopw [4, 8, 37] (fun o _ i wr => ∃ (m : Nat) (r : Option Nat) (A : Option Addr) (c : Nat), m ≤ nt ∧ i = .int .i64 m ∧ o = .slice A (allETN base ours theirs k m) c ∧ OwnE wr r A (allETN base ours theirs k m) c (allETo base ours theirs k m) ∧ (∀ g, r = some g → w.heap.size < g) ∧ Below w.heap.size w wr ∧ Blk wr w.heap.size 86 #[.slice Ab nb cb, .slice Ao k co, .slice At nt ct]) (fun _ _ i _ => nt - (intOf i).toNat)
      case atStart => exact ⟨0, r, A, c, by omega, rfl, rfl, HOW.out, hr, hbr, hX⟩
      case round =>
        clear HOW hr hbr hX hx0 hx1 hx2
        obtain ⟨m, r, A, c, hm, rfl, rfl, hown, hr, hbr, hX⟩ := hrel
        have hle1 := fltEN_le ours (pAE base theirs) k
        have hle2 := fltEN_le theirs (pBE base ours) m
        have hle : allETN base ours theirs k m ≤ 2000000 := by unfold allETN; omega
        clear hle1 hle2
        by_cases hlt2 : m < nt
        · have hqt := ht.below (hbr.mono hB)
          obtain ⟨ad, x, rfl, hbl, hx, hxb, hc1, hc2, hc3⟩ := hqt.at_ hlt2
          have HX := Lib.hid hx
          have HO := Lib.hid hown
          have HBR := Lib.hid hbr
          have hsz := hX.lt
          have HXB := Lib.hid (hX.alloc (.cells #[.int .u32 x.1, .int .u32 x.2.1, .int .u32 x.2.2] 39))
          obtain ⟨hx0, hx1, hx2⟩ := hX.c3
          clear hx hown hqt hbr
          have HN : Hid (allETN base ours theirs k (m + 1) = allETN base ours theirs k m + if pBE base ours x then 1 else 0) := by
            show _ = _; unfold allETN; rw [fltEN_succ HX.out]; omega
          have HT : Hid (allETo base ours theirs k (m + 1) = allETo base ours theirs k m ++ if pBE base ours x then [x] else []) := by
            show _ = _; unfold allETo; rw [fltE_succ HX.out]; simp
          have HB1 := Lib.hid (HBR.out.alloc HBR.out.size (.cells #[.int .u32 x.1, .int .u32 x.2.1, .int .u32 x.2.2] 39))
          have HZ := Lib.hid (Blk.new wr 39 #[.int .u32 x.1, .int .u32 x.2.1, .int .u32 x.2.2])
          go_wp2_with fail
          rw [edV_lit]
          refine (hasE1_any B _ _ _ ours x _ (ho.below (HB1.out.mono hB)) hxb (by have := HB1.out.size; omega)).mono ?_
          rintro e w2 ⟨rfl, B2⟩
          have BXw2 := HZ.out.below B2 (by simp)
          have OXw2 := (HO.out.alloc (.cells #[.int .u32 x.1, .int .u32 x.2.1, .int .u32 x.2.2] 39)).below B2 (HO.out.alloc (.cells #[.int .u32 x.1, .int .u32 x.2.1, .int .u32 x.2.2] 39)).lt
          have HXw2 := HXB.out.below B2 HXB.out.lt
          have BRw2 := HB1.out.trans (B2.mono HB1.out.size)
          clear B2
          cases h1 : hasE ours x
          · obtain ⟨v0, v1, v2⟩ := HXw2.c3
            obtain ⟨b0, b1, b2⟩ := BXw2.c3
            have H1 := Lib.hid h1
            clear h1
            go_wp2_with fail
            rw [edV_lit]
            refine (hasE1_any B _ _ _ base x _ (hb.below (BRw2.mono hB)) hxb (by have := BRw2.size; omega)).mono ?_
            rintro e w3 ⟨rfl, B3⟩
            have BXw3 := BXw2.below B3 BXw2.lt
            have OXw3 := OXw2.below B3 OXw2.lt
            have HXw3 := HXw2.below B3 HXw2.lt
            have BRw3 := BRw2.trans (B3.mono BRw2.size)
            clear B3
            cases h2 : hasE base x
            · have H2 := Lib.hid h2
              clear h2
              have HY := Lib.hid (BXw3.alloc (.cells #[.int .u32 x.1, .int .u32 x.2.1, .int .u32 x.2.2] 39))
              have HO3 := Lib.hid (OXw3.alloc (.cells #[.int .u32 x.1, .int .u32 x.2.1, .int .u32 x.2.2] 39))
              have HH3 := Lib.hid (HXw3.alloc (.cells #[.int .u32 x.1, .int .u32 x.2.1, .int .u32 x.2.2] 39))
              have HB3 := Lib.hid (BRw3.alloc BRw3.size (.cells #[.int .u32 x.1, .int .u32 x.2.1, .int .u32 x.2.2] 39))
              obtain ⟨y0, y1, y2⟩ := BXw3.c3
              go_wp2_with (first
                | (at_builtin; refine appE1 rfl (.tmp 55) (.tmp 57) rfl _ r _ _ c (allETo base ours theirs k m) rfl HO3.out w3.heap.size x rfl (Blk.new _ _ _) hxb (by omega) ?_; intro r3 A3 c3 w5 m1 m2 m3))
              go_roundw
              case rel =>
                have hp : pBE base ours x = true := by simp [pBE, H1.out, H2.out]
                have hr3 : ∀ g, r3 = some g → w.heap.size < g := fun g e => by
                  rcases m3 with h3 | h3
                  · exact hr g (by rw [← h3, e])
                  · have := h3 g e; have := HB3.out.size; have := HH3.out.lt; simp at *; omega
                have hN := HN.out
                have hT := HT.out
                rw [hp] at hN hT
                simp only [if_true] at hN hT
                exact ⟨m + 1, r3, A3, c3, by omega, by go_num, by rw [hN], by rw [hN, hT]; exact m1, hr3, HB3.out.grown m2 HB3.out.size (fun g e => by have := hr g e; omega), HH3.out.grown m2 (fun e => by have := hr _ e.symm; omega)⟩
              case measure => simp [intOf]; omega
            · have H2 := Lib.hid h2
              clear h2
              go_wp2_with fail
              go_roundw
              case rel =>
                have hp : pBE base ours x = false := by simp [pBE, H1.out, H2.out]
                have hN := HN.out
                have hT := HT.out
                rw [hp] at hN hT
                simp only [Bool.false_eq_true, if_false, Nat.add_zero, List.append_nil] at hN hT
                exact ⟨m + 1, r, A, c, by omega, by go_num, by rw [hN], by rw [hN, hT]; exact OXw3, hr, BRw3, HXw3⟩
              case measure => simp [intOf]; omega
          · have H1 := Lib.hid h1
            clear h1
            go_wp2_with fail
            go_roundw
            case rel =>
              have hp : pBE base ours x = false := by simp [pBE, H1.out]
              have hN := HN.out
              have hT := HT.out
              rw [hp] at hN hT
              simp only [Bool.false_eq_true, if_false, Nat.add_zero, List.append_nil] at hN hT
              exact ⟨m + 1, r, A, c, by omega, by go_num, by rw [hN], by rw [hN, hT]; exact OXw2, hr, BRw2, HXw2⟩
            case measure => simp [intOf]; omega
        · obtain rfl : m = nt := by omega
          go_wp2_with fail
          go_ret
          have e1 := allETo_all base ours theirs HLo.out HLt.out
          have e2 := allETo_len base ours theirs k m
          rw [e1] at e2
          rw [e1, ← e2] at hown
          exact ⟨r, A, c, by rw [e2]; rfl, hown, hbr, fun g e => by have := hr g e; omega⟩
end Go.Proofs.Ytklmckbpbloonaa

namespace Go.Proofs.Ytklmckbpbloonaa
open Go.RowKit

def idsTo (es : List Edg) (k : Nat) : List Int := (es.take k).map Prod.fst
/-- The least number that stands twice among the first k. -/
def clashTo (es : List Edg) : Nat → Int
  | 0 => 0
  | k + 1 => if decide (K es k ∈ idsTo es k) && (decide (clashTo es k = 0) || decide (K es k < clashTo es k)) then K es k else clashTo es k
theorem idsTo_succ {es : List Edg} {k : Nat} {x : Edg} (h : es[k]? = some x) : idsTo es (k + 1) = idsTo es k ++ [x.1] := by
  unfold idsTo; rw [takeE_at h]; simp
theorem clashTo_ok {es : List Edg} (h : edgs es) : ∀ k, 0 ≤ clashTo es k ∧ clashTo es k < 4294967296
  | 0 => ⟨Int.le_refl _, by unfold clashTo; omega⟩
  | k + 1 => by
    unfold clashTo
    split
    · unfold K
      cases e : es[k]? with
      | none => simp
      | some x => exact (h x (List.mem_of_getElem? e)).1
    · exact clashTo_ok h k
set_option maxRecDepth 100000 in
theorem zeroBo (w : World) : (zeroValue 4).run Try.prog w = .ok (.bool false) w := by kernel_rfl
set_option maxRecDepth 100000 in
set_option maxHeartbeats 1000000 in
theorem clash_any (B : Nat) (A : Option Addr) (n c : Nat) (es : List Edg) (w : World) (h : RdE w B A n c es) (hB : B ≤ w.heap.size) (hn : n ≤ 1000000) :
    Calls Try.prog 70 #[.slice A n c] w fun e w' => e = .returned (.int .u32 (clashTo es n)) ∧ Below w.heap.size w w' := by
  obtain ⟨hn', hc⟩ := h.bd
  have hmm := @run_makeMap Try.prog
  have hzb := zeroBo
  have hM0 := MapOf.made w .u32 Value.bool
  have hB0 := (Below.refl w.heap.size w).alloc (Nat.le_refl _) (.map #[] 0)
  have HM0 := Lib.hid hM0
  have HB0 := Lib.hid hB0
  have HED : Hid (edgs es) := h.2.2.2.2
  clear hM0 hB0
  go_enter Try.func70, Try.ntmps70
  go_wp2_with fail
  go_loopw [4, 6, 10] (fun s4 _ s10 wr => ∃ (k : Nat) (low : Int) (m : List (Int × Bool)), k ≤ n ∧ s10 = .int .i64 k ∧ s4 = .int .u32 low ∧ MapOf wr w.heap.size .u32 Value.bool m ∧ Hid (low = clashTo es k ∧ (0 ≤ low ∧ low < 4294967296) ∧ ∀ i, (mget m i).getD false = decide (i ∈ idsTo es k)) ∧ Below w.heap.size w wr) (fun _ _ s10 _ => n - (intOf s10).toNat)
  case atStart => exact ⟨0, 0, [], by omega, rfl, rfl, HM0.out, ⟨rfl, by omega, fun i => by simp [mget, idsTo]⟩, HB0.out⟩
  case round =>
    clear HM0 HB0
    obtain ⟨k, low, m, hk, rfl, rfl, hm, hL, hbr⟩ := hrel
    by_cases hlt : k < n
    · have hq := h.below (hbr.mono hB)
      obtain ⟨ad, x, rfl, hbl, hx, hxb, hc1, hc2, hc3⟩ := hq.at_ hlt
      have HX := Lib.hid hx
      have hml := hm.lt
      have HM := Lib.hid (hm.alloc (.cells #[.int .u32 x.1, .int .u32 x.2.1, .int .u32 x.2.2] 39))
      have HBR := Lib.hid (hbr.alloc hbr.size (.cells #[.int .u32 x.1, .int .u32 x.2.1, .int .u32 x.2.2] 39))
      clear hx hm hbr hq
      have hKx := K_at HX.out
      have hset : Hid (∀ i, (mget (mput m x.1 true) i).getD false = decide (i ∈ idsTo es (k + 1))) := fun i => by
        rw [mget_mput, idsTo_succ HX.out]
        by_cases e : i = x.1
        · rw [if_pos e]; simp [e]
        · rw [if_neg e, hL.out.2.2 i]; simp [e]
      have hnext : Hid (clashTo es (k + 1) = if decide (x.1 ∈ idsTo es k) && (decide (low = 0) || decide (x.1 < low)) then x.1 else low) := by
        show _ = _
        rw [clashTo, hKx, hL.out.1]
      have hlk0 : ((mget m x.1).map Value.bool).getD (.bool false) = .bool (decide (x.1 ∈ idsTo es k)) := by
        rw [← hL.out.2.2 x.1]; cases mget m x.1 <;> rfl
      clear hKx
      by_cases hs : x.1 ∈ idsTo es k
      · have hlk : ((mget m x.1).map Value.bool).getD (.bool false) = .bool true := by rw [hlk0]; simp [hs]
        have HS := Lib.hid hs
        clear hs hlk0
        by_cases h0 : low = 0
        · have h0' : (low == 0) = true := by simp [h0]
          have H0 := Lib.hid h0
          clear h0
          go_wp2_with (first
            | (at_lookup; refine wpList_mlook rfl (.tmp 14) (.tmp 16) 60 31 4 rfl Try.underlying60 Try.underlying31 hzb x.1 HM.out rfl rfl ?_; rw [hlk])
            | (at_mapUpdate; refine wpList_mput rfl (.tmp 30) (.tmp 32) (.const (.bool true)) 60 31 4 rfl Try.underlying60 Try.underlying31 x.1 true HM.out rfl rfl rfl ?_; intro w5 u1 u2 u3))
          go_roundw
          case rel => exact ⟨k + 1, x.1, mput m x.1 true, by omega, by go_num, rfl, u1, ⟨by rw [hnext.out]; simp [HS.out, H0.out], by first | exact hxb.1 | exact hL.out.2.1, hset.out⟩, HBR.out.grown u2 HBR.out.size (fun g e => by cases e; exact Nat.le_refl _)⟩
          case measure => simp [intOf]; omega
        · have h0' : (low == 0) = false := by simp [h0]
          have H0 := Lib.hid h0
          clear h0
          by_cases hlx : x.1 < low
          · have HLX := Lib.hid hlx
            go_wp2_with (first
              | (at_lookup; refine wpList_mlook rfl (.tmp 14) (.tmp 16) 60 31 4 rfl Try.underlying60 Try.underlying31 hzb x.1 HM.out rfl rfl ?_; rw [hlk])
              | (at_mapUpdate; refine wpList_mput rfl (.tmp 30) (.tmp 32) (.const (.bool true)) 60 31 4 rfl Try.underlying60 Try.underlying31 x.1 true HM.out rfl rfl rfl ?_; intro w5 u1 u2 u3))
            go_roundw
            case rel => exact ⟨k + 1, x.1, mput m x.1 true, by omega, by go_num, rfl, u1, ⟨by rw [hnext.out]; simp [HS.out, HLX.out], by first | exact hxb.1 | exact hL.out.2.1, hset.out⟩, HBR.out.grown u2 HBR.out.size (fun g e => by cases e; exact Nat.le_refl _)⟩
            case measure => simp [intOf]; omega
          · have hlx' : decide (x.1 < low) = false := by simpa using hlx
            have HLX := Lib.hid hlx
            clear hlx
            go_wp2_with (first
              | (at_lookup; refine wpList_mlook rfl (.tmp 14) (.tmp 16) 60 31 4 rfl Try.underlying60 Try.underlying31 hzb x.1 HM.out rfl rfl ?_; rw [hlk])
              | (at_mapUpdate; refine wpList_mput rfl (.tmp 30) (.tmp 32) (.const (.bool true)) 60 31 4 rfl Try.underlying60 Try.underlying31 x.1 true HM.out rfl rfl rfl ?_; intro w5 u1 u2 u3))
            go_roundw
            case rel => exact ⟨k + 1, low, mput m x.1 true, by omega, by go_num, rfl, u1, ⟨by rw [hnext.out]; simp [H0.out]; intro _ h; exact absurd h HLX.out, by first | exact hxb.1 | exact hL.out.2.1, hset.out⟩, HBR.out.grown u2 HBR.out.size (fun g e => by cases e; exact Nat.le_refl _)⟩
            case measure => simp [intOf]; omega
      · have hlk : ((mget m x.1).map Value.bool).getD (.bool false) = .bool false := by rw [hlk0]; simp [hs]
        have HS := Lib.hid hs
        clear hs hlk0
        go_wp2_with (first
          | (at_lookup; refine wpList_mlook rfl (.tmp 14) (.tmp 16) 60 31 4 rfl Try.underlying60 Try.underlying31 hzb x.1 HM.out rfl rfl ?_; rw [hlk])
          | (at_mapUpdate; refine wpList_mput rfl (.tmp 30) (.tmp 32) (.const (.bool true)) 60 31 4 rfl Try.underlying60 Try.underlying31 x.1 true HM.out rfl rfl rfl ?_; intro w5 u1 u2 u3))
        go_roundw
        case rel => exact ⟨k + 1, low, mput m x.1 true, by omega, by go_num, rfl, u1, ⟨by rw [hnext.out]; simp [HS.out], by first | exact hxb.1 | exact hL.out.2.1, hset.out⟩, HBR.out.grown u2 HBR.out.size (fun g e => by cases e; exact Nat.le_refl _)⟩
        case measure => simp [intOf]; omega
    · obtain rfl : k = n := by omega
      go_wp2_with fail
      go_ret
      exact ⟨ret_int hL.out.1, hbr⟩
end Go.Proofs.Ytklmckbpbloonaa

namespace Go.Proofs.Ytklmckbpbloonaa

theorem chkN_zero {last n : Int} (h : chkN last n = 0) : 1 ≤ n ∧ n ≤ 1048576 ∧ last < n := by
  unfold chkN at h
  split at h
  · omega
  · split at h <;> omega
theorem chkVs_zero : ∀ {vs : List Int} {last : Int}, chkVs last vs = 0 → (∀ v ∈ vs, last < v ∧ 1 ≤ v ∧ v ≤ 1048576) ∧ vs.Pairwise (· < ·)
  | [], _, _ => ⟨(fun v hv => by cases hv), List.Pairwise.nil⟩
  | v :: vs, last, h => by
    unfold chkVs at h
    split at h
    · rename_i h0; exact absurd h h0
    · rename_i h0
      obtain ⟨h1, h2, h3⟩ := chkN_zero (Classical.byContradiction h0)
      obtain ⟨k1, k2⟩ := chkVs_zero h
      refine ⟨fun x hx => ?_, List.pairwise_cons.2 ⟨fun x hx => (k1 x hx).1, k2⟩⟩
      rcases List.mem_cons.1 hx with rfl | hx
      · exact ⟨h3, h1, h2⟩
      · have := k1 x hx; omega
theorem chkE_zero {all : List Int} {last : Int} {e : Edg} (h : chkE all last e = 0) : (1 ≤ e.1 ∧ e.1 ≤ 1048576 ∧ last < e.1) ∧ e.2.1 ≠ e.2.2 ∧ e.2.1 ∈ all ∧ e.2.2 ∈ all := by
  unfold chkE at h
  split at h
  · rename_i h0; exact absurd h h0
  · rename_i h0
    split at h
    · omega
    · rename_i h1
      split at h
      · omega
      · rename_i h2
        refine ⟨chkN_zero (Classical.byContradiction h0), h1, ?_, ?_⟩
        · exact Classical.byContradiction fun hh => h2 (.inl hh)
        · exact Classical.byContradiction fun hh => h2 (.inr hh)
theorem chkEs_zero : ∀ {es : List Edg} {all : List Int} {last : Int}, chkEs all last es = 0 → (∀ e ∈ es, last < e.1 ∧ (1 ≤ e.1 ∧ e.1 ≤ 1048576) ∧ e.2.1 ≠ e.2.2 ∧ e.2.1 ∈ all ∧ e.2.2 ∈ all) ∧ (es.map (·.1)).Pairwise (· < ·)
  | [], _, _, _ => ⟨(fun v hv => by cases hv), List.Pairwise.nil⟩
  | e :: es, all, last, h => by
    unfold chkEs at h
    split at h
    · rename_i h0; exact absurd h h0
    · rename_i h0
      obtain ⟨h1, h2, h3, h4⟩ := chkE_zero (Classical.byContradiction h0)
      obtain ⟨k1, k2⟩ := chkEs_zero h
      refine ⟨fun x hx => ?_, ?_⟩
      · rcases List.mem_cons.1 hx with rfl | hx
        · exact ⟨h1.2.2, ⟨h1.1, h1.2.1⟩, h2, h3, h4⟩
        · have := k1 x hx
          exact ⟨by omega, this.2⟩
      · rw [List.map_cons, List.pairwise_cons]
        refine ⟨fun x hx => ?_, k2⟩
        obtain ⟨y, hy, rfl⟩ := List.mem_map.1 hx
        exact (k1 y hy).1
/-- A graph that may be. -/
structure Fit (vs : List Int) (es : List Edg) : Prop where
  nv : vs.length ≤ 64
  ne : es.length ≤ 160
  up : vs.Pairwise (· < ·)
  big : ∀ v ∈ vs, 1 ≤ v ∧ v ≤ 1048576
  ends : ∀ e ∈ es, e.2.1 ∈ vs ∧ e.2.2 ∈ vs
  loop : ∀ e ∈ es, e.2.1 ≠ e.2.2
  ids : ∀ e ∈ es, 1 ≤ e.1 ∧ e.1 ≤ 1048576
  eup : (es.map (·.1)).Pairwise (· < ·)
theorem gcheck_zero {vs : List Int} {es : List Edg} (h : gcheck vs es = 0) : Fit vs es := by
  unfold gcheck at h
  split at h
  · omega
  · rename_i h0
    split at h
    · rename_i h1; exact absurd h h1
    · rename_i h1
      obtain ⟨a1, a2⟩ := chkVs_zero (Classical.byContradiction h1)
      obtain ⟨b1, b2⟩ := chkEs_zero h
      exact ⟨by omega, by omega, a2, fun v hv => (a1 v hv).2, fun e he => (b1 e he).2.2.2, fun e he => (b1 e he).2.2.1, fun e he => (b1 e he).2.1, b2⟩
/-- The last place of v among the first k. -/
def placeTo (vs : List Int) (v : Int) (k : Nat) : Int := if v ∈ vs.take k then idx vs v else -1
theorem placeTo_all {vs : List Int} {v : Int} {n : Nat} (hn : vs.length = n) : placeTo vs v n = idx vs v := by
  subst hn
  unfold placeTo
  rw [List.take_length]
  split
  · rfl
  · rename_i h; unfold idx; rw [if_neg h]
theorem placeTo_hit {vs : List Int} {v : Int} {k : Nat} (hs : vs.Pairwise (· < ·)) (h : vs[k]? = some v) : placeTo vs v (k + 1) = k := by
  unfold placeTo
  rw [if_pos (by rw [take_at h]; simp)]
  refine idx_hit (fun j hj e => ?_) h
  obtain ⟨a, e1⟩ := List.getElem?_eq_some_iff.1 e
  obtain ⟨b, e2⟩ := List.getElem?_eq_some_iff.1 h
  have := List.pairwise_iff_getElem.1 hs j k a b hj
  omega
theorem placeTo_miss {vs : List Int} {v x : Int} {k : Nat} (h : vs[k]? = some x) (hne : x ≠ v) : placeTo vs v (k + 1) = placeTo vs v k := by
  unfold placeTo
  rw [take_at h]
  have : (v ∈ vs.take k ++ [x]) ↔ v ∈ vs.take k := by simp [Ne.symm hne]
  simp only [this]
end Go.Proofs.Ytklmckbpbloonaa

namespace Go.Proofs.Ytklmckbpbloonaa

abbrev Gph : Type := List Int × List Edg
def okEnds (vs : List Int) (x : Edg) : Bool := hasB vs x.2.1 && hasB vs x.2.2
def dang (vs : List Int) (es : List Edg) : Option Edg := es.find? fun x => !okEnds vs x
def unL (b o t : Gph) : List Edg := allE b.2 o.2 t.2
def unV (b o t : Gph) : List Int := makeTo id (allL b.1 o.1 t.1) (allL b.1 o.1 t.1).length
def unG (b o t : Gph) : List Edg := makeTo Prod.fst (unL b o t) (unL b o t).length
def unC (b o t : Gph) : Int := clashTo (unL b o t) (unL b o t).length
/-- What three graphs come to. -/
def unR (b o t : Gph) : Gph × Int × Int :=
  if unC b o t ≠ 0 then (([], []), unC b o t, 26) else
  match dang (unV b o t) (unG b o t) with
  | some x => (([], []), x.1, 27)
  | none => if 64 < (unV b o t).length ∨ 160 < (unG b o t).length then (([], []), 0, 6) else ((unV b o t, unG b o t), 0, 0)

theorem chkVs_of : ∀ {vs : List Int} {last : Int}, (∀ v ∈ vs, last < v ∧ 1 ≤ v ∧ v ≤ 1048576) → vs.Pairwise (· < ·) → chkVs last vs = 0
  | [], _, _, _ => rfl
  | v :: vs, last, h, hp => by
    obtain ⟨p1, p2⟩ := List.pairwise_cons.1 hp
    have h0 := h v List.mem_cons_self
    have : chkN last v = 0 := by unfold chkN; rw [if_neg (by omega), if_neg (by omega)]
    rw [chkVs_cons, this, if_neg (by omega)]
    exact chkVs_of (fun x hx => ⟨p1 x hx, (h x (List.mem_cons_of_mem _ hx)).2⟩) p2
theorem chkEs_of : ∀ {es : List Edg} {all : List Int} {last : Int}, (∀ e ∈ es, last < e.1 ∧ (1 ≤ e.1 ∧ e.1 ≤ 1048576) ∧ e.2.1 ≠ e.2.2 ∧ e.2.1 ∈ all ∧ e.2.2 ∈ all) → (es.map (·.1)).Pairwise (· < ·) → chkEs all last es = 0
  | [], _, _, _, _ => rfl
  | e :: es, all, last, h, hp => by
    rw [List.map_cons] at hp
    obtain ⟨p1, p2⟩ := List.pairwise_cons.1 hp
    obtain ⟨h0, h1, h2, h3, h4⟩ := h e List.mem_cons_self
    have hn : chkN last e.1 = 0 := by unfold chkN; rw [if_neg (by omega), if_neg (by omega)]
    have he : chkE all last e = 0 := by
      unfold chkE
      rw [hn, if_neg (by omega), if_neg h2, if_neg]
      rintro (h | h)
      · exact h h3
      · exact h h4
    rw [chkEs_cons, he, if_neg (by omega)]
    exact chkEs_of (fun x hx => ⟨p1 _ (List.mem_map.2 ⟨x, hx, rfl⟩), (h x (List.mem_cons_of_mem _ hx)).2⟩) p2
theorem gcheck_of {vs : List Int} {es : List Edg} (h : Fit vs es) : gcheck vs es = 0 := by
  unfold gcheck
  rw [if_neg (by have := h.nv; have := h.ne; omega), chkVs_of (fun v hv => by have := h.big v hv; omega) h.up, if_neg (by omega)]
  exact chkEs_of (fun e he => ⟨by have := h.ids e he; omega, h.ids e he, h.loop e he, h.ends e he⟩) h.eup


theorem hasE_iff {es : List Edg} {x : Edg} : hasE es x = true ↔ x ∈ es := by simp [hasE]
theorem mem_allL {b o t : List Int} {x : Int} : x ∈ allL b o t ↔ (x ∈ o ∧ (x ∈ t ∨ x ∉ b)) ∨ (x ∈ t ∧ x ∉ o ∧ x ∉ b) := by
  unfold allL
  simp only [List.mem_append, List.mem_filter, pA, pB, Bool.or_eq_true, Bool.and_eq_true, Bool.not_eq_true', hasB_iff, hasB, decide_eq_false_iff_not, decide_eq_true_eq]
theorem mem_allE {b o t : List Edg} {x : Edg} : x ∈ allE b o t ↔ (x ∈ o ∧ (x ∈ t ∨ x ∉ b)) ∨ (x ∈ t ∧ x ∉ o ∧ x ∉ b) := by
  unfold allE
  simp only [List.mem_append, List.mem_filter, pAE, pBE, Bool.or_eq_true, Bool.and_eq_true, Bool.not_eq_true', hasE, decide_eq_false_iff_not, decide_eq_true_eq]
theorem nodup_allE {b o t : List Edg} (ho : o.Nodup) (ht : t.Nodup) : (allE b o t).Nodup := by
  unfold allE
  rw [List.nodup_append]
  refine ⟨ho.filter _, ht.filter _, fun x hx y hy e => ?_⟩
  subst e
  have h1 := (List.mem_filter.1 hx).1
  have h2 := (List.mem_filter.1 hy).2
  simp [pBE, hasE] at h2
  exact h2.1 h1
theorem perm_allE {b o t : List Edg} (ho : o.Nodup) (ht : t.Nodup) : (allE b o t).Perm (allE b t o) := by
  refine (List.perm_ext_iff_of_nodup (nodup_allE ho ht) (nodup_allE ht ho)).2 fun x => ?_
  rw [mem_allE, mem_allE]
  by_cases h1 : x ∈ o <;> by_cases h2 : x ∈ t <;> by_cases h3 : x ∈ b <;> simp [h1, h2, h3]
theorem fit_nodup {vs : List Int} {es : List Edg} (h : Fit vs es) : es.Nodup := by
  refine List.Pairwise.imp ?_ (List.pairwise_map.1 h.eup)
  intro a b hab e
  rw [e] at hab; omega
theorem fit_rise {vs : List Int} {es : List Edg} (h : Fit vs es) : es.Pairwise fun a b => a.1 < b.1 := List.pairwise_map.1 h.eup
theorem fit_keys {vs : List Int} {es : List Edg} (h : Fit vs es) : (es.map Prod.fst).Nodup := by
  refine List.Pairwise.imp ?_ h.eup
  intro a b hab; omega

theorem idsTo_all (es : List Edg) : idsTo es es.length = es.map Prod.fst := by unfold idsTo; rw [List.take_length]
/-- 0 where no number stands twice; else the least that does. -/
theorem clash_is {es : List Edg} (hid : ∀ e ∈ es, 1 ≤ e.1) : ∀ k, k ≤ es.length → 0 ≤ clashTo es k ∧ (clashTo es k = 0 → (idsTo es k).Nodup) ∧ (clashTo es k ≠ 0 → 2 ≤ (idsTo es k).count (clashTo es k) ∧ ∀ d, 2 ≤ (idsTo es k).count d → clashTo es k ≤ d)
  | 0, _ => by simp [clashTo, idsTo]
  | k + 1, hk => by
    obtain ⟨h0, h1, h2⟩ := clash_is hid k (by omega)
    have hx : es[k]? = some es[k] := List.getElem?_eq_getElem (by omega)
    have hx1 := hid es[k] (List.getElem_mem (by omega))
    rw [idsTo_succ hx, clashTo, K_at hx]
    generalize es[k] = x at hx hx1
    have hcx : (idsTo es k).count x.1 ≠ 0 ↔ x.1 ∈ idsTo es k := by
      rw [← List.count_pos_iff]; omega
    have hcnt : ∀ d, (idsTo es k ++ [x.1]).count d = (idsTo es k).count d + if x.1 = d then 1 else 0 := fun d => by
      rw [List.count_append, List.count_singleton]
      by_cases e : x.1 = d
      · simp [e]
      · have : ¬ d = x.1 := fun h => e h.symm
        simp [e]
    by_cases hm : x.1 ∈ idsTo es k
    · have hpos : 0 < (idsTo es k).count x.1 := List.count_pos_iff.2 hm
      by_cases hc : clashTo es k = 0 ∨ x.1 < clashTo es k
      · have hif : (decide (x.1 ∈ idsTo es k) && (decide (clashTo es k = 0) || decide (x.1 < clashTo es k))) = true := by
          rcases hc with hc | hc <;> simp [hm, hc]
        rw [if_pos hif]
        refine ⟨by omega, fun h => by omega, fun _ => ⟨by rw [hcnt]; simp; omega, fun d hd => ?_⟩⟩
        rw [hcnt] at hd
        by_cases e : x.1 = d
        · omega
        · rw [if_neg e] at hd
          rcases hc with hc | hc
          · have := List.nodup_iff_count.1 (h1 hc) d; omega
          · have := (h2 (by omega)).2 d (by omega); omega
      · have hif : ¬ (decide (x.1 ∈ idsTo es k) && (decide (clashTo es k = 0) || decide (x.1 < clashTo es k))) = true := by
          simp only [not_or] at hc
          simp [hc.1, hc.2]
        rw [if_neg hif]
        have hc0 : clashTo es k ≠ 0 := fun h => hc (.inl h)
        obtain ⟨c1, c2⟩ := h2 hc0
        refine ⟨h0, fun h => absurd h hc0, fun _ => ⟨by rw [hcnt]; omega, fun d hd => ?_⟩⟩
        rw [hcnt] at hd
        by_cases e : x.1 = d
        · have : ¬ x.1 < clashTo es k := fun h => hc (.inr h)
          omega
        · rw [if_neg e] at hd; exact c2 d (by omega)
    · have hif : ¬ (decide (x.1 ∈ idsTo es k) && (decide (clashTo es k = 0) || decide (x.1 < clashTo es k))) = true := by simp [hm]
      have hz : (idsTo es k).count x.1 = 0 := List.count_eq_zero.2 hm
      rw [if_neg hif]
      refine ⟨h0, fun h => ?_, fun h => ⟨by rw [hcnt]; have := (h2 h).1; omega, fun d hd => ?_⟩⟩
      · rw [List.nodup_append]
        refine ⟨h1 h, by simp, fun a ha b hb e => ?_⟩
        simp only [List.mem_singleton] at hb
        rw [e, hb] at ha
        exact hm ha
      · rw [hcnt] at hd
        by_cases e : x.1 = d
        · rw [if_pos e, ← e, hz] at hd; omega
        · rw [if_neg e] at hd; exact (h2 h).2 d (by omega)
theorem clash_zero {es : List Edg} (hid : ∀ e ∈ es, 1 ≤ e.1) (h : clashTo es es.length = 0) : (es.map Prod.fst).Nodup := by
  rw [← idsTo_all]; exact (clash_is hid _ (Nat.le_refl _)).2.1 h
theorem clash_none {es : List Edg} (hid : ∀ e ∈ es, 1 ≤ e.1) (h : (es.map Prod.fst).Nodup) : clashTo es es.length = 0 := by
  refine Classical.byContradiction fun hc => ?_
  have h1 := ((clash_is hid _ (Nat.le_refl _)).2.2 hc).1
  rw [idsTo_all] at h1
  have := List.nodup_iff_count.1 h (clashTo es es.length)
  omega
theorem clash_perm {es es' : List Edg} (hid : ∀ e ∈ es, 1 ≤ e.1) (hp : es.Perm es') : clashTo es es.length = clashTo es' es'.length := by
  have hid' : ∀ e ∈ es', 1 ≤ e.1 := fun e he => hid e (hp.mem_iff.2 he)
  have hk := hp.map Prod.fst
  by_cases h : clashTo es es.length = 0
  · rw [h, clash_none hid' (hk.nodup_iff.1 (clash_zero hid h))]
  · have h' : clashTo es' es'.length ≠ 0 := fun e => h (clash_none hid (hk.nodup_iff.2 (clash_zero hid' e)))
    have a := (clash_is hid _ (Nat.le_refl _)).2.2 h
    have b := (clash_is hid' _ (Nat.le_refl _)).2.2 h'
    rw [idsTo_all] at a b
    have c1 := a.2 _ (by rw [hk.count_eq]; exact b.1)
    have c2 := b.2 _ (by rw [← hk.count_eq]; exact a.1)
    omega

section
variable {b o t : Gph}
theorem unL_ids (ho : Fit o.1 o.2) (ht : Fit t.1 t.2) : ∀ e ∈ unL b o t, 1 ≤ e.1 := fun e he => by
  rcases mem_allE.1 he with h | h
  · exact (ho.ids e h.1).1
  · exact (ht.ids e h.1).1
theorem unV_mem {x : Int} : x ∈ unV b o t ↔ x ∈ allL b.1 o.1 t.1 := makeTo_mem
theorem unG_perm (ho : Fit o.1 o.2) (ht : Fit t.1 t.2) (hc : unC b o t = 0) : (unG b o t).Perm (unL b o t) := makeTo_perm (clash_zero (unL_ids ho ht) hc)
/-- What comes of graphs that may be may be. -/
theorem unR_fit (ho : Fit o.1 o.2) (ht : Fit t.1 t.2) (h : (unR b o t).2.2 = 0) : gcheck (unR b o t).1.1 (unR b o t).1.2 = 0 := by
  refine gcheck_of ?_
  unfold unR at h ⊢
  split at h
  · simp at h
  · rename_i hc
    rw [if_neg hc]
    have hc0 : unC b o t = 0 := Classical.byContradiction hc
    have hp := unG_perm ho ht hc0
    split at h
    · simp at h
    · rename_i hd
      split at h
      · simp at h
      · rename_i hl
        simp only [if_neg hl]
        have hE : ∀ e ∈ unG b o t, e ∈ o.2 ∨ e ∈ t.2 := fun e he => by
          rcases mem_allE.1 (hp.mem_iff.1 he) with q | q
          · exact .inl q.1
          · exact .inr q.1
        refine ⟨by omega, by omega, makeTo_pair id _ _, fun v hv => ?_, fun e he => ?_, fun e he => ?_, fun e he => ?_, List.pairwise_map.2 (makeTo_pair Prod.fst _ _)⟩
        · rcases mem_allL.1 (unV_mem.1 hv) with q | q
          · exact ho.big v q.1
          · exact ht.big v q.1
        · have := List.find?_eq_none.1 hd e he
          simpa [okEnds, hasB] using this
        · rcases hE e he with q | q
          · exact ho.loop e q
          · exact ht.loop e q
        · rcases hE e he with q | q
          · exact ho.ids e q
          · exact ht.ids e q
theorem unV_swap : unV b o t = unV b t o := by
  refine rise_eq (makeTo_pair id _ _) (makeTo_pair id _ _) fun x => ?_
  rw [unV_mem, unV_mem, mem_allL, mem_allL]
  by_cases h1 : x ∈ o.1 <;> by_cases h2 : x ∈ t.1 <;> by_cases h3 : x ∈ b.1 <;> simp [h1, h2, h3]
/-- Ours and theirs can be taken for one another. -/
theorem unR_swap (ho : Fit o.1 o.2) (ht : Fit t.1 t.2) : unR b o t = unR b t o := by
  have hL : (unL b o t).Perm (unL b t o) := perm_allE (fit_nodup ho) (fit_nodup ht)
  have hC : unC b o t = unC b t o := clash_perm (unL_ids ho ht) hL
  unfold unR
  rw [← hC, unV_swap]
  by_cases hc : unC b o t = 0
  · have hG : unG b o t = unG b t o := rise_unique (makeTo_pair Prod.fst _ _) (makeTo_pair Prod.fst _ _) ((unG_perm ho ht hc).trans (hL.trans (unG_perm ht ho (hC ▸ hc)).symm))
    rw [hG]
  · rw [if_pos hc, if_pos hc]
/-- What has just the members of a graph that may be is it. -/
theorem unR_is {g : Gph} (hg : Fit g.1 g.2) (hV : ∀ x, x ∈ allL b.1 o.1 t.1 ↔ x ∈ g.1) (hE : (unL b o t).Perm g.2) : unR b o t = (g, 0, 0) := by
  have hk : ((unL b o t).map Prod.fst).Nodup := (hE.map Prod.fst).nodup_iff.2 (fit_keys hg)
  have hid : ∀ e ∈ unL b o t, 1 ≤ e.1 := fun e he => (hg.ids e (hE.mem_iff.1 he)).1
  have hc : unC b o t = 0 := clash_none hid hk
  have e1 : unV b o t = g.1 := rise_eq (makeTo_pair id _ _) hg.up fun x => by rw [unV_mem]; exact hV x
  have e2 : unG b o t = g.2 := rise_unique (makeTo_pair Prod.fst _ _) (fit_rise hg) ((makeTo_perm hk).trans hE)
  have hd : dang g.1 g.2 = none := List.find?_eq_none.2 fun e he => by have := hg.ends e he; simp [okEnds, hasB, this.1, this.2]
  unfold unR
  rw [if_neg (by omega), e1, e2, hd]
  simp only
  rw [if_neg (by have := hg.nv; have := hg.ne; omega)]
/-- Where theirs is base it is ours. -/
theorem unR_ours (hb : Fit b.1 b.2) (ho : Fit o.1 o.2) : unR b o b = (o, 0, 0) := by
  refine unR_is ho (fun x => ?_) ?_
  · rw [mem_allL]
    by_cases h1 : x ∈ o.1 <;> by_cases h3 : x ∈ b.1 <;> simp [h1, h3]
  · refine (List.perm_ext_iff_of_nodup (nodup_allE (fit_nodup ho) (fit_nodup hb)) (fit_nodup ho)).2 fun x => ?_
    rw [mem_allE]
    by_cases h1 : x ∈ o.2 <;> by_cases h3 : x ∈ b.2 <;> simp [h1, h3]
/-- Where ours is base it is theirs. -/
theorem unR_theirs (hb : Fit b.1 b.2) (ht : Fit t.1 t.2) : unR b b t = (t, 0, 0) := by
  refine unR_is ht (fun x => ?_) ?_
  · rw [mem_allL]
    by_cases h1 : x ∈ t.1 <;> by_cases h3 : x ∈ b.1 <;> simp [h1, h3]
  · refine (List.perm_ext_iff_of_nodup (nodup_allE (fit_nodup hb) (fit_nodup ht)) (fit_nodup ht)).2 fun x => ?_
    rw [mem_allE]
    by_cases h1 : x ∈ t.2 <;> by_cases h3 : x ∈ b.2 <;> simp [h1, h3]
end
end Go.Proofs.Ytklmckbpbloonaa

namespace Go.Proofs.Ytklmckbpbloonaa
open Go.RowKit

/-- A graph by value that reads as a row of vertices and a row of edges. -/
def RdG (w : World) (B : Nat) (v : Value) (g : Gph) : Prop := ∃ A n c A' n' c', v = .agg #[.slice A n c, .slice A' n' c'] ∧ RdU w B A n c g.1 ∧ RdE w B A' n' c' g.2
section
variable {w w' : World} {B B' : Nat} {v : Value} {g : Gph}
theorem RdG.below (h : RdG w B v g) (hb : Below B w w') : RdG w' B v g := by
  obtain ⟨A, n, c, A', n', c', e, h1, h2⟩ := h
  exact ⟨A, n, c, A', n', c', e, h1.below hb, h2.below hb⟩
theorem RdG.more (h : RdG w B v g) (hB : B ≤ B') : RdG w B' v g := by
  obtain ⟨A, n, c, A', n', c', e, h1, h2⟩ := h
  exact ⟨A, n, c, A', n', c', e, h1.more hB, h2.more hB⟩
theorem RdG.nil_ (w : World) : RdG w w.heap.size (.agg #[.slice none 0 0, .slice none 0 0]) ([], []) :=
  ⟨none, 0, 0, none, 0, 0, rfl, (OwnU.nil_ w none).rd, (OwnE.nil_ w none).rd⟩
end
theorem dang_take {vs : List Int} {es : List Edg} {k : Nat} {x : Edg} (h : es[k]? = some x) (hk : dang vs (es.take k) = none) (hx : okEnds vs x = true) : dang vs (es.take (k + 1)) = none := by
  unfold dang at hk ⊢
  rw [takeE_at h, List.find?_append, hk]
  simp [hx]
theorem dang_hit {vs : List Int} {es : List Edg} {k : Nat} {x : Edg} (h : es[k]? = some x) (hk : dang vs (es.take k) = none) (hx : okEnds vs x = false) : dang vs es = some x := by
  unfold dang at hk ⊢
  have e : es = es.take k ++ x :: es.drop (k + 1) := by rw [← drop_at h, List.take_append_drop]
  rw [e, List.find?_append, hk]
  simp [hx]
section
variable {b o t : Gph}
theorem unR_clash (h : unC b o t ≠ 0) : unR b o t = (([], []), unC b o t, 26) := by unfold unR; rw [if_pos h]
theorem unR_dang {x : Edg} (h : unC b o t = 0) (hd : dang (unV b o t) (unG b o t) = some x) : unR b o t = (([], []), x.1, 27) := by
  unfold unR; rw [if_neg (by omega), hd]
theorem unR_many (h : unC b o t = 0) (hd : dang (unV b o t) (unG b o t) = none) (hl : 64 < (unV b o t).length ∨ 160 < (unG b o t).length) : unR b o t = (([], []), 0, 6) := by
  unfold unR; rw [if_neg (by omega), hd]; simp only [if_pos hl]
theorem unR_all (h : unC b o t = 0) (hd : dang (unV b o t) (unG b o t) = none) (h1 : ¬ 64 < (unV b o t).length) (h2 : ¬ 160 < (unG b o t).length) : unR b o t = ((unV b o t, unG b o t), 0, 0) := by
  unfold unR; rw [if_neg (by omega), hd]; simp only [if_neg (show ¬ (64 < (unV b o t).length ∨ 160 < (unG b o t).length) by omega)]
end
theorem allN_le (b o t : List Int) : allN b o t ≤ o.length + t.length := by
  unfold allN allL
  rw [List.length_append]
  have h1 := List.length_filter_le (pA b t) o
  have h2 := List.length_filter_le (pB b o) t
  omega
theorem allE_le (b o t : List Edg) : (allE b o t).length ≤ o.length + t.length := by
  unfold allE
  rw [List.length_append]
  have h1 := List.length_filter_le (pAE b t) o
  have h2 := List.length_filter_le (pBE b o) t
  omega
/-- The blocks of union.Of's own: the three graphs, the result. -/
structure OfFr (w w' : World) (b1 b2 o1 o2 t1 t2 : Value) : Prop where
  b : Blk w' w.heap.size 25 #[b1, b2]
  o : Blk w' (w.heap.size + 1) 25 #[o1, o2]
  t : Blk w' (w.heap.size + 2) 25 #[t1, t2]
  r : Blk w' (w.heap.size + 3) 25 #[.slice none 0 0, .slice none 0 0]
  below : Below w.heap.size w w'
  size : w.heap.size + 4 ≤ w'.heap.size
section
variable {w w' w'' : World} {b1 b2 o1 o2 t1 t2 : Value}
theorem OfFr.on (h : OfFr w w' b1 b2 o1 o2 t1 t2) (hb : Below w'.heap.size w' w'') : OfFr w w'' b1 b2 o1 o2 t1 t2 :=
  ⟨h.b.below hb h.b.lt, h.o.below hb h.o.lt, h.t.below hb h.t.lt, h.r.below hb h.r.lt, h.below.trans (hb.mono h.below.size), by have := h.size; have := hb.size; omega⟩
theorem OfFr.alloc (h : OfFr w w' b1 b2 o1 o2 t1 t2) (x : Obj) : OfFr w (w'.alloc x) b1 b2 o1 o2 t1 t2 := h.on ((Below.refl _ _).alloc (Nat.le_refl _) x)
theorem OfFr.grown (h : OfFr w w' b1 b2 o1 o2 t1 t2) {r : Option Nat} (hg : w'.grownBy w'' r) (hr : ∀ g, r = some g → w.heap.size + 4 ≤ g) : OfFr w w'' b1 b2 o1 o2 t1 t2 :=
  ⟨h.b.grown hg (fun e => by have := hr _ e.symm; omega), h.o.grown hg (fun e => by have := hr _ e.symm; omega), h.t.grown hg (fun e => by have := hr _ e.symm; omega), h.r.grown hg (fun e => by have := hr _ e.symm; omega), h.below.grown hg h.below.size (fun g e => by have := hr g e; omega), by have := h.size; have := hg.size; omega⟩
theorem OfFr.first (w : World) (b1 b2 o1 o2 t1 t2 : Value) : OfFr w ((((w.alloc (.cells #[b1, b2] 25)).alloc (.cells #[o1, o2] 25)).alloc (.cells #[t1, t2] 25)).alloc (.cells #[.slice none 0 0, .slice none 0 0] 25)) b1 b2 o1 o2 t1 t2 := by
  have q1 := Blk.new (w.alloc (.cells #[b1, b2] 25)) 25 #[o1, o2]
  have q2 := Blk.new ((w.alloc (.cells #[b1, b2] 25)).alloc (.cells #[o1, o2] 25)) 25 #[t1, t2]
  have q3 := Blk.new (((w.alloc (.cells #[b1, b2] 25)).alloc (.cells #[o1, o2] 25)).alloc (.cells #[t1, t2] 25)) 25 #[.slice none 0 0, .slice none 0 0]
  simp only [World.size_alloc] at q1 q2 q3
  exact ⟨(((Blk.new w _ _).alloc _).alloc _).alloc _, (q1.alloc _).alloc _, q2.alloc _, q3, ((((Below.refl _ w).alloc (Nat.le_refl _) _).alloc (by simp) _).alloc (by simp; omega) _).alloc (by simp; omega) _, by simp⟩
end
set_option maxRecDepth 100000 in
theorem edges_field (a b c : Value) (W : World) : Sem.run Try.prog (Instr.field 88 (.agg #[a, b, c]) 0) W = .ok (.agg #[a, b, c]) W := by kernel_rfl
set_option maxRecDepth 100000 in
set_option maxHeartbeats 4000000 in
theorem uof_any (B : Nat) (vb vo vt : Value) (b o t : Gph) (w : World) (hb : RdG w B vb b) (ho : RdG w B vo o) (ht : RdG w B vt t) (hB : B ≤ w.heap.size)
    (hid : ∀ e ∈ unL b o t, 1 ≤ e.1) (s1 : o.1.length ≤ 1000) (s2 : t.1.length ≤ 1000) (s3 : o.2.length ≤ 1000) (s4 : t.2.length ≤ 1000) :
    Calls Try.prog 34 #[vb, vo, vt] w fun e w' => ∃ gv, e = .returned (.tuple #[gv, .int .u32 (unR b o t).2.1, .int .i64 (unR b o t).2.2]) ∧ RdG w' w'.heap.size gv (unR b o t).1 ∧ Below w.heap.size w w' := by
  obtain ⟨Ab, nb, cb, Ab', nb', cb', rfl, hb1, hb2⟩ := hb
  obtain ⟨Ao, no, co, Ao', no', co', rfl, ho1, ho2⟩ := ho
  obtain ⟨At, nt, ct, At', nt', ct', rfl, ht1, ht2⟩ := ht
  have lo1 := ho1.len
  have lo2 := ho2.len
  have lt1 := ht1.len
  have lt2 := ht2.len
  have HID := Lib.hid hid
  have HN1 := Lib.hid (allN_le b.1 o.1 t.1)
  have HN2 := Lib.hid (allE_le b.2 o.2 t.2)
  clear hid
  have HF0 := Lib.hid (OfFr.first w (.slice Ab nb cb) (.slice Ab' nb' cb') (.slice Ao no co) (.slice Ao' no' co') (.slice At nt ct) (.slice At' nt' ct'))
  have hfld := edges_field
  go_enter Try.func34, Try.ntmps34
  go_wp2_with fail
  refine (allE_any B _ _ _ _ _ _ _ _ _ b.2 o.2 t.2 _ (hb2.below (HF0.out.below.mono hB)) (ho2.below (HF0.out.below.mono hB)) (ht2.below (HF0.out.below.mono hB)) (by omega) (by omega) (by have := HF0.out.below.size; omega)).mono ?_
  rintro e w1 ⟨r1, A1, c1, rfl, m1, m2, m3⟩
  have HF1 := Lib.hid (HF0.out.on m2)
  obtain ⟨l, hl⟩ : ∃ l, allE b.2 o.2 t.2 = l := ⟨_, rfl⟩
  have HL : Hid (unL b o t = l) := hl
  rw [hl] at m1
  have hll : l.length ≤ 100000 := by have := HN2.out; rw [hl] at this; omega
  have HM1 := Lib.hid m1
  rw [hl]
  clear HF0 m1 m2 m3 hl
  go_wp2_with fail
  refine (clash_any _ _ _ _ l _ HM1.out.rd (Nat.le_refl _) (by omega)).mono ?_
  rintro e w2 ⟨rfl, B2⟩
  have HF2 := Lib.hid (HF1.out.on B2)
  have HM2 := Lib.hid (HM1.out.below B2 HM1.out.lt)
  clear B2 HF1 HM1
  have HC : Hid (unC b o t = clashTo l l.length) := by show clashTo _ _ = _; rw [HL.out]
  obtain ⟨C, hC⟩ : ∃ C, clashTo l l.length = C := ⟨_, rfl⟩
  rw [hC] at HC
  rw [hC]
  by_cases hc : C = 0
  · have hcc : (C != 0) = false := by simp [hc]
    have HND : Hid ((l.map Prod.fst).Nodup) := by
      show List.Nodup _
      refine clash_zero (fun e he => ?_) (hC.trans hc)
      exact HID.out e (by rw [HL.out]; exact he)
    have HC0 : Hid (unC b o t = 0) := by show _ = _; rw [HC.out, hc]
    clear hC hc HC
    obtain ⟨b0, b1⟩ := HF2.out.b.c2
    obtain ⟨o0, o1⟩ := HF2.out.o.c2
    obtain ⟨t0, t1⟩ := HF2.out.t.c2
    have hz2 := HF2.out.size
    have hbs := HF2.out.below
    go_wp2_with fail
    refine (pick_any B _ _ _ _ _ _ _ _ _ b.1 o.1 t.1 _ (hb1.below (hbs.mono hB)) (ho1.below (hbs.mono hB)) (ht1.below (hbs.mono hB)) (by omega) (by omega) (by have := hbs.size; omega)).mono ?_
    rintro e w3 ⟨r3, A3, c3, rfl, p1, p2⟩
    have HF3 := Lib.hid (HF2.out.on p2)
    have HM3 := Lib.hid (HM2.out.below p2 HM2.out.lt)
    have HP3 := Lib.hid p1
    have han : allN b.1 o.1 t.1 ≤ 1000000 := by have := HN1.out; omega
    have HV : Hid (cpL (sortL (allL b.1 o.1 t.1)) = unV b o t) := (makeV_eq _).symm
    clear HF2 HM2 b0 b1 o0 o1 t0 t1 hz2 hbs p1 p2
    go_wp2_with fail
    refine (make_any _ _ _ _ _ _ _ (allL b.1 o.1 t.1) l _ HP3.out.rd HM3.out.rd han hll HND.out (Nat.le_refl _)).mono ?_
    rintro e w4 ⟨r4, A4, c4, r5, A5, c5, es', rfl, q1, q2, q3, q4, q5, q6, q7⟩
    have HE : Hid (unG b o t = es') := by show makeTo _ _ _ = _; rw [HL.out]; exact (makeE_eq HND.out q3 q4).symm
    have HF4 := Lib.hid (HF3.out.on q5)
    rw [HV.out] at q1
    rw [HV.out]
    obtain ⟨V, hV⟩ : ∃ V, unV b o t = V := ⟨_, rfl⟩
    have HVV := Lib.hid hV
    rw [hV] at q1
    rw [hV]
    have hel := q2.len
    have hvl := q1.len
    obtain ⟨nV, hnV⟩ : ∃ nV, V.length = nV := ⟨_, rfl⟩
    obtain ⟨nE, hnE⟩ : ∃ nE, l.length = nE := ⟨_, rfl⟩
    rw [hnV] at q1
    rw [hnE] at q2 hel
    rw [hnV, hnE]
    have HNV := Lib.hid hnV
    have HQ1 := Lib.hid q1
    have HQ2 := Lib.hid q2
    have hr4 : ∀ g, r4 = some g → w.heap.size + 4 ≤ g := fun g e => Nat.le_trans HF3.out.size (q6 g e)
    have hr5 : ∀ g, r5 = some g → w.heap.size + 4 ≤ g := fun g e => Nat.le_trans HF3.out.size (q7 g e)
    have hvb := q1.rd.bd
    have heb := q2.rd.bd
    have HEL := Lib.hid hel
    have hF4s := HF4.out.size
    have HF5 := Lib.hid (HF4.out.alloc (.cells #[.slice A4 nV c4, .slice A5 nE c5] 25))
    have HX5 := Lib.hid (Blk.new w4 25 #[.slice A4 nV c4, .slice A5 nE c5])
    have HQ3 := Lib.hid (HQ1.out.alloc (.cells #[.slice A4 nV c4, .slice A5 nE c5] 25))
    have HQ4 := Lib.hid (HQ2.out.alloc (.cells #[.slice A4 nV c4, .slice A5 nE c5] 25))
    clear q1 q2 q3 q4 q5 q6 q7 hV HV hnV hnE hel hvl HF3 HM3 HP3 HF4 HQ1 HQ2
    go_wp2_with fail
    go_loopw [13, 42] (fun _ i wr => ∃ k : Nat, k ≤ nE ∧ i = .int .i64 k ∧ OfFr w wr (.slice Ab nb cb) (.slice Ab' nb' cb') (.slice Ao no co) (.slice Ao' no' co') (.slice At nt ct) (.slice At' nt' ct') ∧ Blk wr w4.heap.size 25 #[.slice A4 nV c4, .slice A5 nE c5] ∧ OwnU wr r4 A4 nV c4 V ∧ OwnE wr r5 A5 nE c5 es' ∧ Hid (dang V (es'.take k) = none)) (fun _ i _ => nE - (intOf i).toNat)
    case atStart => exact ⟨0, by omega, rfl, HF5.out, HX5.out, HQ3.out, HQ4.out, by show _ = _; simp [dang]⟩
    case round =>
      clear HF5 HX5 HQ3 HQ4
      obtain ⟨k, hk, rfl, hF, hX, hQV, hQE, hD⟩ := hrel
      by_cases hlt : k < nE
      · obtain ⟨ad, x, rfl, hbl, hx, hxb, hc1, hc2, hc3⟩ := hQE.rd.at_ hlt
        have HX := Lib.hid hx
        have hb6 := (Below.refl wr.heap.size wr).alloc (Nat.le_refl _) (.cells #[.int .u32 x.1, .int .u32 x.2.1, .int .u32 x.2.2] 39)
        have HF6 := Lib.hid (hF.on hb6)
        have HX6 := Lib.hid (hX.below hb6 hX.lt)
        have hsz := hX.lt
        have HV6 := Lib.hid (hQV.below hb6 hQV.lt)
        have HE6 := Lib.hid (hQE.below hb6 hQE.lt)
        have HZ6 := Lib.hid (Blk.new wr 39 #[.int .u32 x.1, .int .u32 x.2.1, .int .u32 x.2.2])
        obtain ⟨x0, x1⟩ := hX.c2
        clear hx hF hX hQV hQE hb6
        go_wp2_with fail
        refine (vert_any _ _ _ _ V _ x.2.1 _ HV6.out.rd (Nat.le_refl _)).mono ?_
        rintro e w6 ⟨rfl, B6⟩
        have hb6 := B6.size
        simp only [World.size_alloc] at hb6
        have hF7 := HF6.out.on B6
        have HF7 := Lib.hid hF7
        have hX7 := HX6.out.below B6 HX6.out.lt
        have HX7 := Lib.hid hX7
        have HV7 := Lib.hid (HV6.out.below B6 HV6.out.lt)
        have HE7 := Lib.hid (HE6.out.below B6 HE6.out.lt)
        have hZ7 := HZ6.out.below B6 HZ6.out.lt
        have HZ7 := Lib.hid hZ7
        obtain ⟨x0, x1⟩ := hX7.c2
        obtain ⟨z0, z1, z2⟩ := hZ7.c3
        have hzl := hZ7.lt
        have hxl := hX7.lt
        clear B6 hF7 hX7 hZ7 HF6 HX6 HV6 HE6 HZ6
        cases hA : hasB V x.2.1
        · have HA := Lib.hid hA
          clear hA
          have g1 := idx_hasnt HA.out
          have hr := HF7.out.r
          have f0 := hr.frozen 0
          have f1 := hr.frozen 1
          obtain ⟨r0, r1⟩ := hr.c2
          have hrl := hr.lt
          have HRS : Hid (unR b o t = (([], []), x.1, 27)) := unR_dang HC0.out (by rw [HVV.out, HE.out]; exact dang_hit HX.out hD.out (by simp [okEnds, HA.out]))
          go_wp2_with fail
          go_region
          go_wp2_with fail
          refine bodyPost_ret (v := .tuple #[.agg #[.slice none 0 0, .slice none 0 0], .int .u32 x.1, .int .i64 27]) (by simp [results, Try.results34, go_sem, r0, r1]) rfl ?_
          refine ⟨.agg #[.slice none 0 0, .slice none 0 0], by rw [HRS.out], ?_, (HF7.out.below.drew.setCell (by simp; omega) _).setCell (by simp; omega) _⟩
          rw [HRS.out]
          exact RdG.nil_ _
        · have HA := Lib.hid hA
          clear hA
          have g1 := idx_has HA.out
          have g1' : decide (idx V x.2.1 < 0) = false := by simp; omega
          go_wp2_with fail
          refine (vert_any _ _ _ _ V _ x.2.2 _ HV7.out.rd (Nat.le_refl _)).mono ?_
          rintro e w7 ⟨rfl, B7⟩
          have hF8 := HF7.out.on B7
          have HF8 := Lib.hid hF8
          have hX8 := HX7.out.below B7 HX7.out.lt
          have HX8 := Lib.hid hX8
          have HV8 := Lib.hid (HV7.out.below B7 HV7.out.lt)
          have HE8 := Lib.hid (HE7.out.below B7 HE7.out.lt)
          have hZ8 := HZ7.out.below B7 HZ7.out.lt
          have HZ8 := Lib.hid hZ8
          obtain ⟨x0, x1⟩ := hX8.c2
          obtain ⟨z0, z1, z2⟩ := hZ8.c3
          have hzl := hZ8.lt
          have hxl := hX8.lt
          clear B7 hF8 hX8 hZ8 HF7 HX7 HV7 HE7 HZ7
          cases hA2 : hasB V x.2.2
          · have HA2 := Lib.hid hA2
            clear hA2
            have g2 := idx_hasnt HA2.out
            have hr := HF8.out.r
            have f0 := hr.frozen 0
            have f1 := hr.frozen 1
            obtain ⟨r0, r1⟩ := hr.c2
            have hrl := hr.lt
            have HRS : Hid (unR b o t = (([], []), x.1, 27)) := unR_dang HC0.out (by rw [HVV.out, HE.out]; exact dang_hit HX.out hD.out (by simp [okEnds, HA2.out]))
            go_wp2_with fail
            go_region
            go_wp2_with fail
            refine bodyPost_ret (v := .tuple #[.agg #[.slice none 0 0, .slice none 0 0], .int .u32 x.1, .int .i64 27]) (by simp [results, Try.results34, go_sem, r0, r1]) rfl ?_
            refine ⟨.agg #[.slice none 0 0, .slice none 0 0], by rw [HRS.out], ?_, (HF8.out.below.drew.setCell (by simp; omega) _).setCell (by simp; omega) _⟩
            rw [HRS.out]
            exact RdG.nil_ _
          · have HA2 := Lib.hid hA2
            clear hA2
            have g2 := idx_has HA2.out
            have g2' : decide (idx V x.2.2 < 0) = false := by simp; omega
            go_wp2_with fail
            go_roundw
            case rel => exact ⟨k + 1, by omega, by go_num, HF8.out, HX8.out, HV8.out, HE8.out, by show _ = _; exact dang_take HX.out hD.out (by simp [okEnds, HA.out, HA2.out])⟩
            case measure => simp [intOf]; omega
      · obtain rfl : k = nE := by omega
        have HDN : Hid (dang (unV b o t) (unG b o t) = none) := by
          show _ = _
          rw [HVV.out, HE.out]
          have := hD.out
          rwa [List.take_of_length_le (by rw [HEL.out]; exact Nat.le_refl _)] at this
        have hr := hF.r
        have f0 := hr.frozen 0
        have f1 := hr.frozen 1
        obtain ⟨r0, r1⟩ := hr.c2
        obtain ⟨x0, x1⟩ := hX.c2
        have hrl := hr.lt
        have hxl := hX.lt
        have hFs := hF.size
        have HF := Lib.hid hF
        have HQV := Lib.hid hQV
        have HQE := Lib.hid hQE
        clear hF hQV hQE hX hr
        by_cases h64 : 64 < nV
        · have h64' : (64 : Int) < nV := by omega
          have HRS : Hid (unR b o t = (([], []), 0, 6)) := unR_many HC0.out HDN.out (by rw [HVV.out, HE.out, HNV.out, HEL.out]; omega)
          go_wp2_with fail
          refine bodyPost_ret (v := .tuple #[.agg #[.slice none 0 0, .slice none 0 0], .int .u32 0, .int .i64 6]) (by simp [results, Try.results34, go_sem, r0, r1]) rfl ?_
          refine ⟨.agg #[.slice none 0 0, .slice none 0 0], by rw [HRS.out], ?_, (HF.out.below.setCell (by simp; omega) _).setCell (by simp; omega) _⟩
          rw [HRS.out]
          exact RdG.nil_ _
        · have h64' : decide ((64 : Int) < nV) = false := by simp; omega
          by_cases h160 : 160 < k
          · have h160' : (160 : Int) < k := by omega
            have HRS : Hid (unR b o t = (([], []), 0, 6)) := unR_many HC0.out HDN.out (by rw [HVV.out, HE.out, HNV.out, HEL.out]; omega)
            go_wp2_with fail
            refine bodyPost_ret (v := .tuple #[.agg #[.slice none 0 0, .slice none 0 0], .int .u32 0, .int .i64 6]) (by simp [results, Try.results34, go_sem, r0, r1]) rfl ?_
            refine ⟨.agg #[.slice none 0 0, .slice none 0 0], by rw [HRS.out], ?_, (HF.out.below.setCell (by simp; omega) _).setCell (by simp; omega) _⟩
            rw [HRS.out]
            exact RdG.nil_ _
          · have h160' : decide ((160 : Int) < k) = false := by simp; omega
            have HRS : Hid (unR b o t = ((V, es'), 0, 0)) := by
              have := unR_all HC0.out HDN.out (by rw [HVV.out, HNV.out]; omega) (by rw [HE.out, HEL.out]; omega)
              rw [HVV.out, HE.out] at this
              exact this
            go_wp2_with fail
            refine bodyPost_ret (v := .tuple #[.agg #[.slice A4 nV c4, .slice A5 k c5], .int .u32 0, .int .i64 0]) (by simp [results, Try.results34, go_sem, r0, r1]) rfl ?_
            refine ⟨.agg #[.slice A4 nV c4, .slice A5 k c5], by rw [HRS.out], ?_, (HF.out.below.setCell (by simp; omega) _).setCell (by simp; omega) _⟩
            rw [HRS.out]
            exact ⟨A4, nV, c4, A5, k, c5, rfl, ((HQV.out.setCell_far (fun g e => by have := hr4 g e; simp; omega) _).setCell_far (fun g e => by have := hr4 g e; simp; omega) _).rd, ((HQE.out.setCell_far (fun g e => by have := hr5 g e; simp; omega) _).setCell_far (fun g e => by have := hr5 g e; simp; omega) _).rd⟩
  · have hcc : (C != 0) = true := by simp [hc]
    have hr := HF2.out.r
    have f0 := hr.frozen 0
    have f1 := hr.frozen 1
    obtain ⟨r0, r1⟩ := hr.c2
    have hrl := hr.lt
    have HRS : Hid (unR b o t = (([], []), C, 26)) := by
      have h := HC.out
      have q := unR_clash (b := b) (o := o) (t := t) (by rw [h]; exact hc)
      rw [h] at q
      exact q
    go_wp2_with fail
    refine bodyPost_ret (v := .tuple #[.agg #[.slice none 0 0, .slice none 0 0], .int .u32 C, .int .i64 26]) (by simp [results, Try.results34, go_sem, r0, r1]) rfl ?_
    refine ⟨.agg #[.slice none 0 0, .slice none 0 0], by rw [HRS.out], ?_, (HF2.out.below.setCell (by simp; omega) _).setCell (by simp; omega) _⟩
    rw [HRS.out]
    exact RdG.nil_ _
end Go.Proofs.Ytklmckbpbloonaa
