/- Walks: layer 18, what all of some rows have. -/
import Derived.Test.YtklmckbpbloonaaUnionC
import Derived.Test.YtklmckbpbloonaaGraphC
namespace Go.Proofs.Ytklmckbpbloonaa
open Go.RowKit

set_option maxRecDepth 100000 in
set_option maxHeartbeats 1000000 in
theorem indexFuncUU (B : Nat) (A : Option Addr) (n c : Nat) (xss : List (List Int)) (p : List Int → Bool) (f : Nat) (caps : Array Value) (w : World) (h : RdUU w B A n c xss)
    (he : ∀ args W, (callFunc f args).run Try.prog W = .ok (.enter f args) W)
    (hf : ∀ (A' : Option Addr) (n' c' : Nat) (xs : List Int), RdU w B A' n' c' xs → Calls Try.prog f (#[.slice A' n' c'] ++ caps) w fun r w' => r = .returned (.bool (p xs)) ∧ w = w') :
    Calls Try.prog 100 #[.slice A n c, .func (.func f) #[] caps] w fun r w' => r = .returned (.int .i64 (fidx p xss)) ∧ w = w' := by
  have HL := Lib.hid h.len
  have hnc : n ≤ c ∧ c ≤ 9223372036854775807 := by obtain ⟨_, _, h1, h2, _⟩ := h; exact ⟨h1, h2⟩
  obtain ⟨hn, hc⟩ := hnc
  have HF := Lib.hid hf
  clear hf
  go_enter Try.func100, Try.ntmps100
  go_wp2
  go_loopw [8] (fun i wr => ∃ k : Nat, k ≤ n ∧ i = .int .i64 k ∧ wr = w ∧ Hid (∀ j e, j < k → xss[j]? = some e → p e = false)) (fun i _ => n - (intOf i).toNat)
  case atStart => exact ⟨0, by omega, rfl, rfl, fun j e hj => absurd hj (by omega)⟩
  case round =>
    obtain ⟨k, hk, rfl, rfl, HJ⟩ := hrel
    by_cases hlt : k < n
    · obtain ⟨ad, x, A', n', c', rfl, hbl, hx, hc1, hR⟩ := h.at_ hlt
      have HX := Lib.hid hx
      clear hx
      cases hp : p x
      · have HP := Lib.hid hp
        clear hp
        go_wp2_with (show Calls Try.prog f _ _ _; refine (HF.out _ _ _ x hR).mono ?_; rintro r w1 ⟨rfl, rfl⟩; rw [HP.out])
        go_roundw
        case rel =>
          refine ⟨k + 1, by omega, by go_num, trivial, fun j e hj hje => ?_⟩
          by_cases ejk : j = k
          · subst ejk; rw [HX.out] at hje; injection hje with hje; subst hje; exact HP.out
          · exact HJ.out j e (by omega) hje
        case measure => simp [intOf]; omega
      · have HP := Lib.hid hp
        clear hp
        go_wp2_with (show Calls Try.prog f _ _ _; refine (HF.out _ _ _ x hR).mono ?_; rintro r w1 ⟨rfl, rfl⟩; rw [HP.out])
        go_ret
        refine ⟨ret_int ?_, rfl⟩
        have hfi : xss.findIdx? p = some k := by
          obtain ⟨hkl, hke⟩ := List.getElem?_eq_some_iff.1 HX.out
          rw [List.findIdx?_eq_some_iff_getElem]
          refine ⟨hkl, by rw [hke]; exact HP.out, fun j hj => ?_⟩
          have := HJ.out j xss[j] hj (List.getElem?_eq_getElem (by omega))
          simp [this]
        unfold fidx; rw [hfi]
    · obtain rfl : k = n := by omega
      go_wp2
      go_ret
      refine ⟨ret_int ?_, rfl⟩
      have hfi : xss.findIdx? p = none := by
        rw [List.findIdx?_eq_none_iff]
        intro e he
        obtain ⟨j, hj, e1⟩ := List.mem_iff_getElem.1 he
        exact HJ.out j e (by have := HL.out; omega) (by rw [List.getElem?_eq_getElem hj, e1])
      unfold fidx; rw [hfi]
theorem fidx_any {α : Type} (p : α → Bool) (l : List α) : decide (0 ≤ fidx p l) = l.any p := by
  unfold fidx
  cases h : l.findIdx? p with
  | none =>
    rw [List.findIdx?_eq_none_iff] at h
    have : l.any p = false := by rw [List.any_eq_false]; intro x hx; simp [h x hx]
    rw [this]; simp
  | some i =>
    rw [List.findIdx?_eq_some_iff_getElem] at h
    obtain ⟨hi, h1, _⟩ := h
    have : l.any p = true := List.any_eq_true.2 ⟨l[i], List.getElem_mem hi, h1⟩
    rw [this]; simp
set_option maxHeartbeats 1000000 in
theorem containsFuncUU (B : Nat) (A : Option Addr) (n c : Nat) (xss : List (List Int)) (p : List Int → Bool) (f : Nat) (caps : Array Value) (w : World) (h : RdUU w B A n c xss)
    (he : ∀ args W, (callFunc f args).run Try.prog W = .ok (.enter f args) W)
    (hf : ∀ (A' : Option Addr) (n' c' : Nat) (xs : List Int), RdU w B A' n' c' xs → Calls Try.prog f (#[.slice A' n' c'] ++ caps) w fun r w' => r = .returned (.bool (p xs)) ∧ w = w') :
    Calls Try.prog 67 #[.slice A n c, .func (.func f) #[] caps] w fun r w' => r = .returned (.bool (xss.any p)) ∧ w = w' := by
  have HF := Lib.hid hf
  clear hf
  go_enter Try.func67, Try.ntmps67
  go_wp2_with (go_at_call 100; refine (indexFuncUU B A n c xss p f caps _ h he HF.out).mono ?_; rintro e w' ⟨rfl, rfl⟩)
  go_ret
  exact ⟨ret_bool (fidx_any p xss), rfl⟩
theorem both1_any (B g : Nat) (A : Option Addr) (n c : Nat) (xs : List Int) (x : Int) (w : World) (h : RdU w B A n c xs) (hx : w.cell? ⟨g, 0, none⟩ = some (.int .u32 x)) (hg : g < w.heap.size) :
    Calls Try.prog 68 #[.slice A n c, .pointer (some ⟨g, 0, none⟩)] w fun r w' => r = .returned (.bool (!hasB xs x)) ∧ w = w' := by
  go_enter Try.func68, Try.ntmps68
  go_wp2_with (go_at_call 52; refine (contains_any B _ _ _ xs _ _ h).mono ?_; rintro e w' ⟨rfl, rfl⟩)
  go_ret
  exact ⟨rfl, rfl⟩
end Go.Proofs.Ytklmckbpbloonaa
