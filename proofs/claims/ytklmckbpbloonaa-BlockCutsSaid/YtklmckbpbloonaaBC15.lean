/- Parts of the proof: SortE2. -/
import Derived.Test.YtklmckbpbloonaaBC14
namespace Go.Proofs.Ytklmckbpbloonaa
open Go.RowKit

set_option maxRecDepth 100000 in
set_option maxHeartbeats 1000000 in
theorem rotate_any (g c : Nat) (X U V Y : List Edg) (fv : Value) (w : World) (h : RowE w g c (X ++ U ++ V ++ Y)) (hU : 0 < U.length) (hV : 0 < V.length) :
    Calls Try.prog 156 #[.slice (some ⟨g, 0, none⟩) (X ++ U ++ V ++ Y).length c, .int .i64 X.length, .int .i64 (X.length + U.length : Nat), .int .i64 (X.length + U.length + V.length : Nat), fv] w fun e w' => e = .returned (.tuple #[]) ∧ RowE w' g c (X ++ V ++ U ++ Y) ∧ Chg [g] w w' := by
  obtain ⟨hc1, hc2⟩ := h.cap
  have HW := Lib.hid h
  have hlen : (X ++ U ++ V ++ Y).length = X.length + U.length + V.length + Y.length := by simp; omega
  generalize hn : (X ++ U ++ V ++ Y).length = nn at *
  generalize ha : X.length = a at *
  generalize hi : U.length = i0 at *
  generalize hj : V.length = j0 at *
  generalize hy : Y.length = y0 at *
  have p1 : IntKind.i64.wrap (((a + i0 : Nat) : Int) - (a : Int)) = (i0 : Int) := by rw [IntWalk.i64_in _ (by omega)]; omega
  have p2 : IntKind.i64.wrap (((a + i0 + j0 : Nat) : Int) - ((a + i0 : Nat) : Int)) = (j0 : Int) := by rw [IntWalk.i64_in _ (by omega)]; omega
  have HI : Hid (∃ X' U' V' Y' : List Edg, X ++ U ++ V ++ Y = X' ++ U' ++ V' ++ Y' ∧ X ++ V ++ U ++ Y = X' ++ V' ++ U' ++ Y' ∧ X'.length + U'.length = a + i0 ∧ U'.length = i0 ∧ V'.length = j0) := ⟨X, U, V, Y, rfl, rfl, by omega, hi, hj⟩
  generalize X ++ U ++ V ++ Y = cur0 at *
  generalize X ++ V ++ U ++ Y = tgt at *
  generalize hm : a + i0 = m at *
  generalize hb : m + j0 = b0 at *
  have HLN := Lib.hid hlen
  clear h hi hj hy ha hlen
  go_enter Try.func156, Try.ntmps156
  go_wp2_with fail
  go_loopw [10, 11] (fun s10 s11 wr => ∃ (i j : Nat) (X' U' V' Y' : List Edg), s10 = .int .i64 i ∧ s11 = .int .i64 j ∧ 0 < i ∧ 0 < j ∧ RowE wr g c (X' ++ U' ++ V' ++ Y') ∧ Hid (tgt = X' ++ V' ++ U' ++ Y' ∧ X'.length + U'.length = m ∧ U'.length = i ∧ V'.length = j ∧ (X' ++ U' ++ V' ++ Y').length = nn) ∧ Chg [g] w wr) (fun s10 s11 _ => (intOf s10).toNat + (intOf s11).toNat)
  case atStart =>
    obtain ⟨X', U', V', Y', e1, e2, e3, e4, e5⟩ := HI.out
    exact ⟨i0, j0, X', U', V', Y', by go_num, by go_num, hU, hV, by rw [← e1]; exact HW.out, ⟨e2, by omega, e4, e5, by rw [← e1]; exact hn⟩, Chg.refl _ _⟩
  case round =>
    clear HI HW
    obtain ⟨i, j, X', U', V', Y', rfl, rfl, hi, hj, hr, hH, hC⟩ := hrel
    obtain ⟨e1, e2, e3, e4, e5⟩ := hH.out
    have e6 : X'.length + U'.length + V'.length + Y'.length = nn := by rw [← e5]; simp; omega
    have HR := Lib.hid hr
    have HC := Lib.hid hC
    have HT := Lib.hid e1
    have r1 : IntKind.i64.wrap ((m : Int) - (i : Int)) = ((m - i : Nat) : Int) := by rw [IntWalk.i64_in _ (by omega)]; omega
    have r2 : IntKind.i64.wrap ((m : Int) + (j : Int)) = (m : Int) + (j : Int) := IntWalk.i64_in _ (by omega)
    have r3 : IntKind.i64.wrap ((m : Int) + (j : Int) - (i : Int)) = ((m + j - i : Nat) : Int) := by rw [IntWalk.i64_in _ (by omega)]; omega
    have hsw : ∀ a b k : Nat, a + k ≤ b → b + k ≤ nn → Calls Try.prog 170 #[.slice (some ⟨g, 0, none⟩) nn c, .int .i64 a, .int .i64 b, .int .i64 k, fv] wr fun e w' => e = .returned (.tuple #[]) ∧ RowE w' g c (swr (X' ++ U' ++ V' ++ Y') a b k) ∧ Chg [g] wr w' := fun a b k h1 h2 => by
      have := swapRange_any g c a b k _ fv wr HR.out h1 (by rw [e5]; exact h2)
      rwa [e5] at this
    clear hr hC hH e1
    by_cases hne : i = j
    · subst hne
      go_wp2_with (go_at_call 170; refine (hsw (m - i) m i (by omega) (by omega)).mono ?_; rintro e w2 ⟨rfl, q1, q2⟩)
      go_end0
      refine ⟨rfl, ?_, HC.out.trans q2⟩
      have := swr_pieces (X := X') (S := U') (Y := []) (T := V') (Z := Y') (by omega)
      simp only [List.append_nil, List.length_nil, Nat.add_zero, e3, show X'.length = m - i by omega, show m - i + i = m by omega] at this
      rw [HT.out, ← this]; exact q1
    · have hne1 : ((i : Int) != (j : Int)) = true := by simp; omega
      by_cases hij : j < i
      · go_wp2_with (go_at_call 170; refine (hsw (m - i) m j (by omega) (by omega)).mono ?_; rintro e w2 ⟨rfl, q1, q2⟩)
        go_roundw
        case rel =>
          have := swr_pieces (X := X') (S := U'.take j) (Y := U'.drop j) (T := V') (Z := Y') (by simp; omega)
          have el : (U'.take j).length = j := by simp; omega
          have ed : (U'.drop j).length = i - j := by simp; omega
          rw [el, ed, show X'.length = m - i by omega, show m - i + j + (i - j) = m by omega] at this
          have eq : X' ++ U'.take j ++ U'.drop j ++ V' ++ Y' = X' ++ U' ++ V' ++ Y' := by simp
          rw [eq] at this
          rw [this] at q1
          refine ⟨i - j, j, X' ++ V', U'.drop j, U'.take j, Y', by go_num, rfl, by omega, by omega, q1, ⟨?_, by simp; omega, ed, el, ?_⟩, HC.out.trans q2⟩
          · rw [HT.out]; simp
          · simp; omega
        case measure => simp [intOf]; omega
      · have hij1 : decide ((j : Int) < (i : Int)) = false := by simp; omega
        go_wp2_with (go_at_call 170; refine (hsw (m - i) (m + j - i) i (by omega) (by omega)).mono ?_; rintro e w2 ⟨rfl, q1, q2⟩)
        go_roundw
        case rel =>
          have ed : (V'.drop (j - i)).length = i := by simp; omega
          have el : (V'.take (j - i)).length = j - i := by simp; omega
          have := swr_pieces (X := X') (S := U') (Y := V'.take (j - i)) (T := V'.drop (j - i)) (Z := Y') (by omega)
          rw [el, e3, show X'.length = m - i by omega, show m - i + i + (j - i) = m + j - i by omega] at this
          have eq : X' ++ U' ++ V'.take (j - i) ++ V'.drop (j - i) ++ Y' = X' ++ U' ++ V' ++ Y' := by simp
          rw [eq] at this
          rw [this] at q1
          refine ⟨i, j - i, X', V'.drop (j - i), V'.take (j - i), U' ++ Y', rfl, by go_num, by omega, by omega, ?_, ⟨?_, by omega, ed, el, ?_⟩, HC.out.trans q2⟩
          · simpa using q1
          · rw [HT.out]; simp
          · simp; omega
        case measure => simp [intOf]; omega
end Go.Proofs.Ytklmckbpbloonaa
