/- Walks: layer 18, the references' numbers; whether a row's things are unlike. -/
import Derived.Test.YtklmckbpbloonaaUnionA
namespace Go.Proofs.Ytklmckbpbloonaa
open Go.RowKit

theorem belongs_any (b o t : Bool) (w : World) : Calls Try.prog 65 #[.bool b, .bool o, .bool t] w fun e w' => e = .returned (.bool (o && t || o && !b || t && !b)) ∧ w = w' := by
  cases b <;> cases o <;> cases t <;>
  · go_enter Try.func65, Try.ntmps65
    go_wp2
    go_ret
    exact ⟨rfl, rfl⟩
theorem idx_has {xs : List Int} {x : Int} (h : hasB xs x = true) : 0 ≤ idx xs x := by rw [← hasB_idx] at h; simpa using h
theorem idx_hasnt {xs : List Int} {x : Int} (h : hasB xs x = false) : idx xs x < 0 := by rw [← hasB_idx] at h; simpa using h
theorem pick_any (B : Nat) (Ab Ao At : Option Addr) (nb cb no co nt ct : Nat) (base ours theirs : List Int) (w : World) (hb : RdU w B Ab nb cb base) (ho : RdU w B Ao no co ours) (ht : RdU w B At nt ct theirs) (hno : no ≤ 1000000) (hnt : nt ≤ 1000000) (hB : B ≤ w.heap.size) :
    Calls Try.prog 31 #[.slice Ab nb cb, .slice Ao no co, .slice At nt ct] w fun e w' => ∃ r A c, e = .returned (.slice A (allN base ours theirs) c) ∧ OwnU w' r A (allN base ours theirs) c (allL base ours theirs) ∧ Below w.heap.size w w' := by
  go_enter Try.func31, Try.ntmps31
  go_wp2_with (go_at_call 32; refine (all_any B _ _ _ _ _ _ _ _ _ base ours theirs _ hb ho ht hno hnt hB).mono ?_; rintro e w' ⟨r, A, c, rfl, k1, k2⟩)
  go_ret
  exact ⟨r, A, c, rfl, k1, k2⟩
/-- Are a row's things unlike? -/
def unlikeB (xs : List Int) : Bool := decide xs.Nodup
def likeAt (xs : List Int) (k : Nat) : Prop := ∀ j x, j < k → xs[j]? = some x → idx xs x = j
theorem unlike_all {xs : List Int} {n : Nat} (hn : xs.length = n) (h : likeAt xs n) : xs.Nodup := by
  subst hn
  rw [List.nodup_iff_pairwise_ne, List.pairwise_iff_getElem]
  intro i j hi hj hij e
  have h1 := h i xs[i] hi (List.getElem?_eq_getElem hi)
  have h2 := h j xs[j] hj (List.getElem?_eq_getElem hj)
  rw [e, h2] at h1
  omega
theorem unlike_not {xs : List Int} {k : Nat} {x : Int} (h : xs[k]? = some x) (hne : idx xs x ≠ k) : ¬ xs.Nodup := by
  intro hn
  refine hne (idx_hit (fun j hj e => ?_) h)
  obtain ⟨a, e1⟩ := List.getElem?_eq_some_iff.1 e
  obtain ⟨b, e2⟩ := List.getElem?_eq_some_iff.1 h
  have := (List.getElem_inj hn).1 (e1.trans e2.symm)
  omega
set_option maxHeartbeats 1000000 in
theorem unlike_any (B : Nat) (A : Option Addr) (n c : Nat) (xs : List Int) (w : World) (h : RdU w B A n c xs) :
    Calls Try.prog 28 #[.slice A n c] w fun e w' => e = .returned (.bool (unlikeB xs)) ∧ w = w' := by
  have HL := Lib.hid h.len
  obtain ⟨hn, hc⟩ := h.bd
  go_enter Try.func28, Try.ntmps28
  go_wp2
  go_loopw [7] (fun i wr => ∃ k : Nat, k ≤ n ∧ i = .int .i64 k ∧ wr = w ∧ Hid (likeAt xs k)) (fun i _ => n - (intOf i).toNat)
  case atStart => exact ⟨0, by omega, rfl, rfl, fun j x hj => absurd hj (by omega)⟩
  case round =>
    obtain ⟨k, hk, rfl, rfl, HJ⟩ := hrel
    by_cases hlt : k < n
    · obtain ⟨ad, x, rfl, hbl, hx, _, hc1⟩ := h.at_ hlt
      have HX := Lib.hid hx
      clear hx
      by_cases he : idx xs x = k
      · have he1 : (idx xs x != (k : Int)) = false := by simp [he]
        have HE := Lib.hid he
        clear he
        go_wp2_with (go_at_call 30; refine (rfind_any B _ _ _ xs x _ h).mono ?_; rintro e w' ⟨rfl, rfl⟩)
        go_roundw
        case rel =>
          refine ⟨k + 1, by omega, by go_num, trivial, fun j y hj hy => ?_⟩
          by_cases hjk : j = k
          · subst hjk
            have := HX.out
            rw [this] at hy; injection hy with hy; subst hy; exact HE.out
          · exact HJ.out j y (by omega) hy
        case measure => simp [intOf]; omega
      · have he1 : (idx xs x != (k : Int)) = true := by simp [he]
        have HE := Lib.hid he
        clear he
        go_wp2_with (go_at_call 30; refine (rfind_any B _ _ _ xs x _ h).mono ?_; rintro e w' ⟨rfl, rfl⟩)
        go_ret
        exact ⟨ret_bool (by have := unlike_not HX.out HE.out; simp [unlikeB, this]), rfl⟩
    · obtain rfl : k = n := by omega
      go_wp2
      go_ret
      exact ⟨ret_bool (by have := unlike_all HL.out HJ.out; simp [unlikeB, this]), rfl⟩
end Go.Proofs.Ytklmckbpbloonaa
