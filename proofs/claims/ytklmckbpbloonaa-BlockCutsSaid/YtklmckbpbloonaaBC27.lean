/- Parts of the proof: MakeC. -/
import Derived.Test.YtklmckbpbloonaaBC20
import Derived.Test.YtklmckbpbloonaaBC26
namespace Go.Proofs.Ytklmckbpbloonaa
open Go.RowKit

theorem sameId (x y : Edg) (w : World) : Calls Try.prog 85 #[edV x, edV y] w fun e w' => e = .returned (.bool (x.1 == y.1)) ∧ Below w.heap.size w w' := by
  have HB := Lib.hid (((Below.refl w.heap.size w).alloc (Nat.le_refl _) (.cells (edC x).toArray 39)).alloc (by simp) (.cells (edC y).toArray 39))
  unfold edV edC
  go_enter Try.func85, Try.ntmps85
  go_wp2
  go_ret
  exact ⟨rfl, HB.out⟩
theorem OwnE.row {w : World} {g n c : Nat} {es : List Edg} (h : OwnE w (some g) (some ⟨g, 0, none⟩) n c es) : RowE w g c es := by
  obtain ⟨⟨⟨h1, h2, h3, _, cur, h5, h6, h7⟩, _⟩, hx⟩ := h
  rw [Ed_len] at h3
  have hn : es.length = n := by omega
  refine ⟨cur.toList.drop (n * 3), ?_, by simp [h6]; rw [hn, Nat.sub_mul], by omega, h2, hx⟩
  have e : (Ed es ++ cur.toList.drop (n * 3)).toArray = cur := by
    apply Array.toList_inj.1
    rw [← h7]
    simp
  rw [e]; exact h5
theorem RowE.own {w : World} {g c : Nat} {es : List Edg} (h : RowE w g c es) : OwnE w (some g) (some ⟨g, 0, none⟩) es.length c es := by
  obtain ⟨tail, hb, h1, h2, h3, h4⟩ := h
  have hlen := Ed_len es
  have hle : es.length * 3 ≤ c * 3 := Nat.mul_le_mul_right 3 h2
  refine ⟨⟨⟨h2, h3, hlen, rfl, _, hb, ?_, ?_⟩, fun e => by cases e⟩, h4⟩
  · simp only [List.size_toArray, List.length_append, hlen, h1, Nat.sub_mul]; omega
  · simp only [List.toList_toArray]
    rw [← hlen, List.take_left']
    rfl
theorem Chg.grow {w w' : World} {g : Nat} (h : Chg [g] w w') : w.grownBy w' (some g) := ⟨h.os, h.tape, h.output, h.size, fun k hk hne => h.block k hk (by simp; intro e; exact hne (by rw [e]))⟩
theorem OwnE.some_ {w : World} {r : Option Nat} {A : Option Addr} {n c : Nat} {es : List Edg} (h : OwnE w r A n c es) (hn : 0 < n) : ∃ g, r = some g ∧ A = some ⟨g, 0, none⟩ := by
  cases r with
  | none => have := h.1.1.cap0 rfl; have := h.1.1.1; omega
  | some g => obtain ⟨⟨⟨_, _, _, e, _⟩, _⟩, _⟩ := h; exact ⟨g, rfl, e⟩
/-- The numbers rise. -/
def Rise (es : List Edg) : Prop := ∀ p q, p < q → q < es.length → K es p < K es q
theorem rise_of {es es' : List Edg} (hd : (es.map Prod.fst).Nodup) (hp : es'.Perm es) (hs : Srt es' 0 es.length) : Rise es' := fun p q h1 h2 => by
  have hl := hp.length_eq
  have h3 := hs p q (Nat.zero_le _) h1 (by omega)
  have hd' : (es'.map Prod.fst).Nodup := (hp.map Prod.fst).nodup_iff.2 hd
  have := List.pairwise_iff_getElem.1 hd' p q (by simp; omega) (by simp; omega) h1
  simp only [List.getElem_map] at this
  rw [K_at (List.getElem?_eq_getElem (show p < es'.length by omega)), K_at (List.getElem?_eq_getElem h2)] at h3 ⊢
  omega
theorem sortE (w : World) (r : Option Nat) (A : Option Addr) (n c : Nat) (es : List Edg) (h : OwnE w r A n c es) (hn : n ≤ 100000) (hd : (es.map Prod.fst).Nodup) :
    Calls Try.prog 81 #[.slice A n c, .func (.func 82) #[] #[]] w fun e w' => e = .returned (.tuple #[]) ∧ ∃ es', OwnE w' r A n c es' ∧ es'.Perm es ∧ Rise es' ∧ w.grownBy w' r := by
  have hl := h.len
  by_cases h0 : n = 0
  · subst h0
    have he : es = [] := List.eq_nil_of_length_eq_zero hl
    refine (ss1 A 0 c _ w (by omega)).mono ?_
    rintro e w' ⟨rfl, rfl⟩
    exact ⟨rfl, es, h, List.Perm.refl _, fun p q h1 h2 => by omega, World.grownBy.refl _ _⟩
  · obtain ⟨g, rfl, rfl⟩ := h.some_ (by omega)
    have hst := stable_any g c es w h.row (by omega)
    rw [hl] at hst
    go_enter Try.func81, Try.ntmps81
    go_wp2_with (go_at_call 109; refine hst.mono ?_; rintro e w' ⟨rfl, es', r1, p1, s1, C1⟩)
    go_end0
    have ho := r1.own
    rw [p1.length_eq, hl] at ho
    exact ⟨rfl, es', ho, p1, rise_of hd p1 (by rw [hl]; exact s1), C1.grow⟩
set_option maxRecDepth 100000 in
theorem compactE (w : World) (r : Option Nat) (A : Option Addr) (n c : Nat) (es : List Edg) (h : OwnE w r A n c es) (hs : Rise es) (hsz : n ≤ 1000000) :
    Calls Try.prog 84 #[.slice A n c, .func (.func 85) #[] #[]] w fun e w' => e = .returned (.slice A n c) ∧ Below w.heap.size w w' := by
  have hl := h.len
  by_cases h0 : n < 2
  · refine (cpf1 A n c _ w h0).mono ?_
    rintro e w' ⟨rfl, rfl⟩
    exact ⟨rfl, Below.refl _ _⟩
  · obtain ⟨g, rfl, rfl⟩ := h.some_ (by omega)
    have HW := Lib.hid h.row
    obtain ⟨hc1, hc2⟩ := h.row.cap
    rw [hl] at hc1
    have hd0 : decide ((n : Int) < 2) = false := by simp; omega
    have hd1 : 2 ≤ n := by omega
    clear h h0
    obtain ⟨nn, hnn⟩ : ∃ x, n = x := ⟨_, rfl⟩
    rw [hnn] at hl hsz hc1 hd0 hd1 ⊢
    have HL := Lib.hid hl
    clear hl hnn
    go_enter Try.func84, Try.ntmps84
    go_wp2_with fail
    go_loopw [5] (fun s5 wr => ∃ k : Nat, 1 ≤ k ∧ k ≤ nn ∧ s5 = .int .i64 k ∧ RowE wr g c es ∧ Below w.heap.size w wr) (fun s5 _ => nn - (intOf s5).toNat)
    case atStart => exact ⟨1, by omega, by omega, rfl, HW.out, Below.refl _ _⟩
    case round =>
      clear HW
      obtain ⟨k, hk1, hk2, rfl, hr, hB⟩ := hrel
      have HR := Lib.hid hr
      have HB := Lib.hid hB
      clear hr hB
      by_cases hlt : k < nn
      · obtain ⟨km, hkm⟩ : ∃ km, k = km + 1 := ⟨k - 1, by omega⟩
        have hjl : k < es.length := by have := HL.out; omega
        have hjml : km < es.length := by have := HL.out; omega
        have hx : es[k]? = some es[k] := List.getElem?_eq_getElem hjl
        have hy : es[km]? = some es[km] := List.getElem?_eq_getElem hjml
        generalize es[k] = x at hx
        generalize es[km] = y at hy
        have hlt2 := hs km k (by omega) hjl
        rw [K_at hx, K_at hy] at hlt2
        have hne : (x.1 == y.1) = false := by simp; omega
        have q1 : IntKind.i64.wrap ((k : Int) - 1) = (km : Int) := by rw [IntWalk.i64_in _ (by omega)]; omega
        have q4 : IntKind.i64.wrap ((k : Int) + 1) = ((k + 1 : Nat) : Int) := by rw [IntWalk.i64_in _ (by omega)]; omega
        have q2 : k < nn := hlt
        have q3 : km < nn := by omega
        clear hkm hlt2
        go_wp2_with fail
        refine wp_region_held_drew (S := fun W => RowE W g c es) (by kernel_rfl) HR.out.drew' (fun hHeld => ?_)
        refine held_take 0 18 (.func (.func 85) #[] #[]) (by simp only [List.getElem?_toArray, List.getElem?_cons_zero]; rfl) rfl rfl (by kernel_rfl) (by kernel_rfl) (by kernel_rfl) (fun _ _ _ _ h => h) (by intro W hW; go_simp) hHeld ?_
        simp only [List.setIfInBounds_toArray, List.set_cons_zero, List.set_cons_succ]
        refine held_take 1 19 (.slice (some ⟨g, 0, none⟩) nn c) (by simp only [List.getElem?_toArray, List.getElem?_cons_succ, List.getElem?_cons_zero]; rfl) rfl rfl (by kernel_rfl) (by kernel_rfl) (by kernel_rfl) (fun _ _ _ _ h => h) (by intro W hW; go_simp) hHeld ?_
        simp only [List.setIfInBounds_toArray, List.set_cons_zero, List.set_cons_succ]
        refine held_take 2 20 (.int .i64 k) (by simp only [List.getElem?_toArray, List.getElem?_cons_succ, List.getElem?_cons_zero]; rfl) rfl rfl (by kernel_rfl) (by kernel_rfl) (by kernel_rfl) (fun _ _ _ _ h => h) (by intro W hW; go_simp) hHeld ?_
        simp only [List.setIfInBounds_toArray, List.set_cons_zero, List.set_cons_succ]
        refine held_take 3 21 (.pointer (some ⟨g, (k * 3), none⟩)) (by simp only [List.getElem?_toArray, List.getElem?_cons_succ, List.getElem?_cons_zero]; rfl) rfl rfl (by kernel_rfl) (by kernel_rfl) (by kernel_rfl) (fun _ _ _ _ h => h) (by intro W hW; go_simp) hHeld ?_
        simp only [List.setIfInBounds_toArray, List.set_cons_zero, List.set_cons_succ]
        refine held_take 4 22 (edV x) (by simp only [List.getElem?_toArray, List.getElem?_cons_succ, List.getElem?_cons_zero]; rfl) rfl rfl (by kernel_rfl) (by kernel_rfl) (by kernel_rfl) (fun _ _ _ _ h => h) (fun W hW => exec_loadE rfl rfl hW hx) hHeld ?_
        simp only [List.setIfInBounds_toArray, List.set_cons_zero, List.set_cons_succ]
        refine held_take 5 23 (.slice (some ⟨g, 0, none⟩) nn c) (by simp only [List.getElem?_toArray, List.getElem?_cons_succ, List.getElem?_cons_zero]; rfl) rfl rfl (by kernel_rfl) (by kernel_rfl) (by kernel_rfl) (fun _ _ _ _ h => h) (by intro W hW; go_simp) hHeld ?_
        simp only [List.setIfInBounds_toArray, List.set_cons_zero, List.set_cons_succ]
        refine held_take 6 24 (.int .i64 k) (by simp only [List.getElem?_toArray, List.getElem?_cons_succ, List.getElem?_cons_zero]; rfl) rfl rfl (by kernel_rfl) (by kernel_rfl) (by kernel_rfl) (fun _ _ _ _ h => h) (by intro W hW; go_simp) hHeld ?_
        simp only [List.setIfInBounds_toArray, List.set_cons_zero, List.set_cons_succ]
        refine held_take 7 25 (.int .i64 km) (by simp only [List.getElem?_toArray, List.getElem?_cons_succ, List.getElem?_cons_zero]; rfl) rfl rfl (by kernel_rfl) (by kernel_rfl) (by kernel_rfl) (fun _ _ _ _ h => h) (by intro W hW; go_simp) hHeld ?_
        simp only [List.setIfInBounds_toArray, List.set_cons_zero, List.set_cons_succ]
        refine held_take 8 26 (.pointer (some ⟨g, (km * 3), none⟩)) (by simp only [List.getElem?_toArray, List.getElem?_cons_succ, List.getElem?_cons_zero]; rfl) rfl rfl (by kernel_rfl) (by kernel_rfl) (by kernel_rfl) (fun _ _ _ _ h => h) (by intro W hW; go_simp) hHeld ?_
        simp only [List.setIfInBounds_toArray, List.set_cons_zero, List.set_cons_succ]
        refine held_take 9 27 (edV y) (by simp only [List.getElem?_toArray, List.getElem?_cons_succ, List.getElem?_cons_zero]; rfl) rfl rfl (by kernel_rfl) (by kernel_rfl) (by kernel_rfl) (fun _ _ _ _ h => h) (fun W hW => exec_loadE rfl rfl hW hy) hHeld ?_
        simp only [List.setIfInBounds_toArray, List.set_cons_zero, List.set_cons_succ]
        refine held_call 10 28 85 #[edV x, edV y] (by simp only [List.getElem?_toArray, List.getElem?_cons_succ, List.getElem?_cons_zero]; rfl) rfl rfl (by kernel_rfl) (by intro W; go_simp) ?_
        refine (sameId x y _).mono ?_
        rintro e w3 ⟨rfl, B3⟩
        have hHeld := hHeld.on B3
        refine ⟨_, rfl, hHeld, ?_⟩
        simp only [List.setIfInBounds_toArray, List.set_cons_zero, List.set_cons_succ]
        refine wpAnyH_done (by kernel_rfl) ?_ _
        go_wp2_with fail
        go_roundw
        case rel => exact ⟨k + 1, by omega, by omega, by go_num, hHeld, (HB.out.drew).trans (B3.mono HB.out.size)⟩
        case measure => simp [intOf]; omega
      · obtain rfl : k = nn := by omega
        have hd : decide ((k : Int) < (k : Int)) = false := by simp
        go_wp2_with fail
        go_ret
        exact ⟨rfl, HB.out⟩
end Go.Proofs.Ytklmckbpbloonaa
