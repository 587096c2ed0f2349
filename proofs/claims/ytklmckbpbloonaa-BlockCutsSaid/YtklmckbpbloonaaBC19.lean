/- Parts of the proof: SortE6. -/
import Derived.Test.YtklmckbpbloonaaBC18
import Derived.Test.YtklmckbpbloonaaBC13
namespace Go.Proofs.Ytklmckbpbloonaa
open Go.RowKit

theorem rotate_rot (g c s m e nn : Nat) (es : List Edg) (fv : Value) (w : World) (h : RowE w g c es) (hn : es.length = nn) (h1 : s < m) (h2 : m < e) (h3 : e ≤ nn) :
    Calls Try.prog 156 #[.slice (some ⟨g, 0, none⟩) nn c, .int .i64 s, .int .i64 m, .int .i64 e, fv] w fun x w' => x = .returned (.tuple #[]) ∧ RowE w' g c (rot es s m e) ∧ Chg [g] w w' := by
  have l1 : (es.take s).length = s := by simp; omega
  have l2 : ((es.drop m).take (e - m)).length = e - m := by simp; omega
  have l3 : ((es.drop s).take (m - s)).length = m - s := by simp; omega
  have hp := pieces es (s := s) (m := m) (e := e) (by omega) (by omega)
  have := rotate_any g c (es.take s) ((es.drop s).take (m - s)) ((es.drop m).take (e - m)) (es.drop e) fv w (by rw [← hp]; exact h) (by omega) (by omega)
  rw [← hp, hn, l1, l2, l3, show s + (m - s) = m by omega, show m + (e - m) = e by omega] at this
  exact this
set_option maxRecDepth 100000 in
set_option maxHeartbeats 16000000 in
theorem symMerge_step (N : Nat) (ih : ∀ (g c a m b : Nat) (es : List Edg) (w : World), b - a ≤ N → RowE w g c es → a < m → m < b → b ≤ es.length → es.length ≤ 1000000 → Srt es a m → Srt es m b →
      Calls Try.prog 141 #[.slice (some ⟨g, 0, none⟩) es.length c, .int .i64 a, .int .i64 m, .int .i64 b, .func (.func 82) #[] #[]] w fun e w' => e = .returned (.tuple #[]) ∧ ∃ es', RowE w' g c es' ∧ Like a b es es' ∧ Srt es' a b ∧ Chg [g] w w')
    (g c a m b : Nat) (es : List Edg) (w : World) (hN : b - a ≤ N + 1) (h : RowE w g c es) (ham : a + 1 < m) (hmb : m + 1 < b) (hb : b ≤ es.length) (hsz : es.length ≤ 1000000) (hA : Srt es a m) (hB : Srt es m b) :
    Calls Try.prog 141 #[.slice (some ⟨g, 0, none⟩) es.length c, .int .i64 a, .int .i64 m, .int .i64 b, .func (.func 82) #[] #[]] w fun e w' => e = .returned (.tuple #[]) ∧ ∃ es', RowE w' g c es' ∧ Like a b es es' ∧ Srt es' a b ∧ Chg [g] w w' := by
  obtain ⟨hc1, hc2⟩ := h.cap
  have HW := Lib.hid h
  generalize hnn : es.length = nn at *
  have hcall : ∀ (cur : List Edg) (a' m' b' : Nat) (W : World), RowE W g c cur → cur.length = nn → a' < m' → m' < b' → b' ≤ nn → b' - a' ≤ N → Srt cur a' m' → Srt cur m' b' →
      Calls Try.prog 141 #[.slice (some ⟨g, 0, none⟩) nn c, .int .i64 a', .int .i64 m', .int .i64 b', .func (.func 82) #[] #[]] W fun e w' => e = .returned (.tuple #[]) ∧ ∃ es', RowE w' g c es' ∧ Like a' b' cur es' ∧ Srt es' a' b' ∧ Chg [g] W w' := fun cur a' m' b' W k1 k2 k3 k4 k5 k6 k7 k8 => by
    have := ih g c a' m' b' cur W k6 k1 k3 k4 (by omega) (by omega) k7 k8
    rwa [k2] at this
  obtain ⟨d, hd⟩ : ∃ d, d = m - a := ⟨_, rfl⟩
  obtain ⟨d2, hd2⟩ : ∃ d, d = b - m := ⟨_, rfl⟩
  obtain ⟨mid, hmid⟩ : ∃ x, x = (a + b) / 2 := ⟨_, rfl⟩
  obtain ⟨nm, hnm⟩ : ∃ x, x = mid + m := ⟨_, rfl⟩
  obtain ⟨pp, hpp⟩ : ∃ x, x = mid + m - 1 := ⟨_, rfl⟩
  have p1 : IntKind.i64.wrap ((m : Int) - (a : Int)) = (d : Int) := by rw [IntWalk.i64_in _ (by omega)]; omega
  have p2 : IntKind.i64.wrap ((b : Int) - (m : Int)) = (d2 : Int) := by rw [IntWalk.i64_in _ (by omega)]; omega
  have p3 : ((d : Int) == 1) = false := by simp; omega
  have p4 : ((d2 : Int) == 1) = false := by simp; omega
  have p5 : IntKind.i64.wrap ((a : Int) + (b : Int)) = (a : Int) + (b : Int) := IntWalk.i64_in _ (by omega)
  have p6 : ((a : Int) + (b : Int)) / 2 = (mid : Int) := by omega
  have p7 : IntKind.i64.wrap ((mid : Int) + (m : Int)) = (nm : Int) := by rw [IntWalk.i64_in _ (by omega)]; omega
  have p8 : IntKind.i64.wrap ((nm : Int) - 1) = (pp : Int) := by rw [IntWalk.i64_in _ (by omega)]; omega
  have HNN := Lib.hid hnn
  have HMID := Lib.hid hmid
  have HPP := Lib.hid hpp
  have HPP2 := Lib.hid hnm
  have ham : a < m := by omega
  have hmb : m < b := by omega
  clear h hnn hd hd2 hpp ih
  by_cases hmm : mid < m
  · obtain ⟨start0, hs0⟩ : ∃ x, x = mid + m - b := ⟨_, rfl⟩
    obtain ⟨r0, hr0⟩ : ∃ x, x = mid := ⟨_, rfl⟩
    have hs : Hid ((mid < m ∧ start0 = mid + m - b ∧ r0 = mid) ∨ (m ≤ mid ∧ start0 = a ∧ r0 = m)) := .inl ⟨hmm, hs0, hr0⟩
    have p9 : IntKind.i64.wrap ((nm : Int) - (b : Int)) = (start0 : Int) := by rw [IntWalk.i64_in _ (by omega)]; omega
    clear hnm hmid hs0
    go_enter Try.func141, Try.ntmps141
    go_wp2_with fail
    go_loopw [20, 21, 23] (fun s20 s21 _ wr => ∃ (s r : Nat), s20 = .int .i64 s ∧ s21 = .int .i64 r ∧ start0 ≤ s ∧ s ≤ r ∧ r ≤ r0 ∧ RowE wr g c es ∧ Hid ((∀ q, start0 ≤ q → q < s → K es q ≤ K es (pp - q)) ∧ (∀ q, r ≤ q → q < r0 → K es (pp - q) < K es q)) ∧ Chg [g] w wr) (fun s20 s21 _ _ => (intOf s21).toNat - (intOf s20).toNat)
    case atStart => exact ⟨start0, r0, by go_num, by go_num, Nat.le_refl _, by have := hs.out; have := HMID.out; omega, Nat.le_refl _, HW.out, ⟨fun p h1 h2 => by omega, fun p h1 h2 => by omega⟩, Chg.refl _ _⟩
    case round =>
      clear HW
      obtain ⟨s, r, rfl, rfl, hi1, hi2, hi3, hr, hL, hC⟩ := hrel
      have HR := Lib.hid hr
      have HC := Lib.hid hC
      clear hr hC
      by_cases hlt : s < r
      · obtain ⟨cc, hh⟩ : ∃ cc, cc = (s + r) / 2 := ⟨_, rfl⟩
        obtain ⟨u, hu⟩ : ∃ u, u = pp - cc := ⟨_, rfl⟩
        have hbd : m ≤ u ∧ u < b ∧ cc ≤ pp ∧ u = pp - cc ∧ cc < m ∧ cc < r0 := by have := hs.out; have := HMID.out; have := HPP.out; omega
        have hcl : cc < es.length := by have := HNN.out; omega
        have hul : u < es.length := by have := HNN.out; omega
        have hx : es[u]? = some es[u] := List.getElem?_eq_getElem hul
        have hy : es[cc]? = some es[cc] := List.getElem?_eq_getElem hcl
        generalize es[u] = x at hx
        generalize es[cc] = y at hy
        have HKX := Lib.hid (K_at hx)
        have HKY := Lib.hid (K_at hy)
        have q1 : IntKind.i64.wrap ((s : Int) + (r : Int)) = (s : Int) + (r : Int) := IntWalk.i64_in _ (by have := hs.out; have := HMID.out; omega)
        have q2 : cc < nn := by omega
        have q3 : u < nn := by omega
        have q0 : ((s : Int) + (r : Int)) / 2 = (cc : Int) := by omega
        have q5 : IntKind.i64.wrap ((pp : Int) - (cc : Int)) = (u : Int) := by rw [IntWalk.i64_in _ (by omega)]; omega
        have HH := Lib.hid hh
        have HBD := Lib.hid hbd
        have q4 : IntKind.i64.wrap ((cc : Int) + 1) = ((cc + 1 : Nat) : Int) := by rw [IntWalk.i64_in _ (by omega)]; omega
        clear hh hbd hu
        by_cases hk : x.1 < y.1
        · have hdec2 : cmpN x.1 y.1 < 0 := by have := cmpN_lt x.1 y.1; simpa [hk] using this
          go_wp2_with fail
          refine wp_region_held_drew (S := fun W => RowE W g c es) (by kernel_rfl) HR.out.drew' (fun hHeld => ?_)
          refine held_take 0 158 (.func (.func 82) #[] #[]) (by simp only [List.getElem?_toArray, List.getElem?_cons_zero]; rfl) rfl rfl (by kernel_rfl) (by kernel_rfl) (by kernel_rfl) (fun _ _ _ _ h => h) (by intro W hW; go_simp) hHeld ?_
          simp only [List.setIfInBounds_toArray, List.set_cons_zero, List.set_cons_succ]
          refine held_take 1 159 (.slice (some ⟨g, 0, none⟩) nn c) (by simp only [List.getElem?_toArray, List.getElem?_cons_succ, List.getElem?_cons_zero]; rfl) rfl rfl (by kernel_rfl) (by kernel_rfl) (by kernel_rfl) (fun _ _ _ _ h => h) (by intro W hW; go_simp) hHeld ?_
          simp only [List.setIfInBounds_toArray, List.set_cons_zero, List.set_cons_succ]
          refine held_take 2 160 (.int .i64 pp) (by simp only [List.getElem?_toArray, List.getElem?_cons_succ, List.getElem?_cons_zero]; rfl) rfl rfl (by kernel_rfl) (by kernel_rfl) (by kernel_rfl) (fun _ _ _ _ h => h) (by intro W hW; go_simp) hHeld ?_
          simp only [List.setIfInBounds_toArray, List.set_cons_zero, List.set_cons_succ]
          refine held_take 3 161 (.int .i64 cc) (by simp only [List.getElem?_toArray, List.getElem?_cons_succ, List.getElem?_cons_zero]; rfl) rfl rfl (by kernel_rfl) (by kernel_rfl) (by kernel_rfl) (fun _ _ _ _ h => h) (by intro W hW; go_simp) hHeld ?_
          simp only [List.setIfInBounds_toArray, List.set_cons_zero, List.set_cons_succ]
          refine held_take 4 162 (.int .i64 u) (by simp only [List.getElem?_toArray, List.getElem?_cons_succ, List.getElem?_cons_zero]; rfl) rfl rfl (by kernel_rfl) (by kernel_rfl) (by kernel_rfl) (fun _ _ _ _ h => h) (by intro W hW; go_simp) hHeld ?_
          simp only [List.setIfInBounds_toArray, List.set_cons_zero, List.set_cons_succ]
          refine held_take 5 163 (.pointer (some ⟨g, (u * 3), none⟩)) (by simp only [List.getElem?_toArray, List.getElem?_cons_succ, List.getElem?_cons_zero]; rfl) rfl rfl (by kernel_rfl) (by kernel_rfl) (by kernel_rfl) (fun _ _ _ _ h => h) (by intro W hW; go_simp) hHeld ?_
          simp only [List.setIfInBounds_toArray, List.set_cons_zero, List.set_cons_succ]
          refine held_take 6 164 (edV x) (by simp only [List.getElem?_toArray, List.getElem?_cons_succ, List.getElem?_cons_zero]; rfl) rfl rfl (by kernel_rfl) (by kernel_rfl) (by kernel_rfl) (fun _ _ _ _ h => h) (fun W hW => exec_loadE rfl rfl hW hx) hHeld ?_
          simp only [List.setIfInBounds_toArray, List.set_cons_zero, List.set_cons_succ]
          refine held_take 7 165 (.slice (some ⟨g, 0, none⟩) nn c) (by simp only [List.getElem?_toArray, List.getElem?_cons_succ, List.getElem?_cons_zero]; rfl) rfl rfl (by kernel_rfl) (by kernel_rfl) (by kernel_rfl) (fun _ _ _ _ h => h) (by intro W hW; go_simp) hHeld ?_
          simp only [List.setIfInBounds_toArray, List.set_cons_zero, List.set_cons_succ]
          refine held_take 8 166 (.int .i64 cc) (by simp only [List.getElem?_toArray, List.getElem?_cons_succ, List.getElem?_cons_zero]; rfl) rfl rfl (by kernel_rfl) (by kernel_rfl) (by kernel_rfl) (fun _ _ _ _ h => h) (by intro W hW; go_simp) hHeld ?_
          simp only [List.setIfInBounds_toArray, List.set_cons_zero, List.set_cons_succ]
          refine held_take 9 167 (.pointer (some ⟨g, (cc * 3), none⟩)) (by simp only [List.getElem?_toArray, List.getElem?_cons_succ, List.getElem?_cons_zero]; rfl) rfl rfl (by kernel_rfl) (by kernel_rfl) (by kernel_rfl) (fun _ _ _ _ h => h) (by intro W hW; go_simp) hHeld ?_
          simp only [List.setIfInBounds_toArray, List.set_cons_zero, List.set_cons_succ]
          refine held_take 10 168 (edV y) (by simp only [List.getElem?_toArray, List.getElem?_cons_succ, List.getElem?_cons_zero]; rfl) rfl rfl (by kernel_rfl) (by kernel_rfl) (by kernel_rfl) (fun _ _ _ _ h => h) (fun W hW => exec_loadE rfl rfl hW hy) hHeld ?_
          simp only [List.setIfInBounds_toArray, List.set_cons_zero, List.set_cons_succ]
          refine held_call 11 169 82 #[edV x, edV y] (by simp only [List.getElem?_toArray, List.getElem?_cons_succ, List.getElem?_cons_zero]; rfl) rfl rfl (by kernel_rfl) (by intro W; go_simp) ?_
          refine (byId x y _).mono ?_
          rintro e w3 ⟨rfl, B3⟩
          have hHeld := hHeld.on B3
          have C3 : Chg [g] wr w3 := (Chg.refl [g] wr).drew.trans (Chg.of_below B3 [g])
          refine ⟨_, rfl, hHeld, ?_⟩
          simp only [List.setIfInBounds_toArray, List.set_cons_zero, List.set_cons_succ]
          refine held_take 12 170 (.bool true) (by simp only [List.getElem?_toArray, List.getElem?_cons_succ, List.getElem?_cons_zero]; rfl) rfl rfl (by kernel_rfl) (by kernel_rfl) (by kernel_rfl) (fun _ _ _ _ h => h) (by intro W hW; go_simp) hHeld ?_
          simp only [List.setIfInBounds_toArray, List.set_cons_zero, List.set_cons_succ]
          refine held_take 13 171 (.bool false) (by simp only [List.getElem?_toArray, List.getElem?_cons_succ, List.getElem?_cons_zero]; rfl) rfl rfl (by kernel_rfl) (by kernel_rfl) (by kernel_rfl) (fun _ _ _ _ h => h) (by intro W hW; go_simp) hHeld ?_
          simp only [List.setIfInBounds_toArray, List.set_cons_zero, List.set_cons_succ]
          refine wpAnyH_done (by kernel_rfl) ?_ _
          go_wp2_with fail
          go_roundw
          case rel =>
            have hh := HH.out
            obtain ⟨b1, b2, b3, b4, b5, b6⟩ := HBD.out
            refine ⟨s, cc, rfl, rfl, by omega, by omega, by omega, hHeld, ⟨hL.out.1, fun p c1 c2 => ?_⟩, HC.out.trans C3⟩
            by_cases e : p = cc
            · subst e; rw [← b4, HKX.out, HKY.out]; exact hk
            · have k1 := hA cc p (by have := hs.out; have := HMID.out; omega) (by omega) (by have := hs.out; omega)
              have k2 := hB (pp - p) u (by have := hs.out; have := HMID.out; have := HPP.out; omega) (by omega) b2
              rw [HKY.out] at k1; rw [HKX.out] at k2; omega
          case measure => have := HH.out; simp [intOf]; omega
        · have hdec2 : ¬ cmpN x.1 y.1 < 0 := by have := cmpN_lt x.1 y.1; simpa [hk] using this
          go_wp2_with fail
          refine wp_region_held_drew (S := fun W => RowE W g c es) (by kernel_rfl) HR.out.drew' (fun hHeld => ?_)
          refine held_take 0 158 (.func (.func 82) #[] #[]) (by simp only [List.getElem?_toArray, List.getElem?_cons_zero]; rfl) rfl rfl (by kernel_rfl) (by kernel_rfl) (by kernel_rfl) (fun _ _ _ _ h => h) (by intro W hW; go_simp) hHeld ?_
          simp only [List.setIfInBounds_toArray, List.set_cons_zero, List.set_cons_succ]
          refine held_take 1 159 (.slice (some ⟨g, 0, none⟩) nn c) (by simp only [List.getElem?_toArray, List.getElem?_cons_succ, List.getElem?_cons_zero]; rfl) rfl rfl (by kernel_rfl) (by kernel_rfl) (by kernel_rfl) (fun _ _ _ _ h => h) (by intro W hW; go_simp) hHeld ?_
          simp only [List.setIfInBounds_toArray, List.set_cons_zero, List.set_cons_succ]
          refine held_take 2 160 (.int .i64 pp) (by simp only [List.getElem?_toArray, List.getElem?_cons_succ, List.getElem?_cons_zero]; rfl) rfl rfl (by kernel_rfl) (by kernel_rfl) (by kernel_rfl) (fun _ _ _ _ h => h) (by intro W hW; go_simp) hHeld ?_
          simp only [List.setIfInBounds_toArray, List.set_cons_zero, List.set_cons_succ]
          refine held_take 3 161 (.int .i64 cc) (by simp only [List.getElem?_toArray, List.getElem?_cons_succ, List.getElem?_cons_zero]; rfl) rfl rfl (by kernel_rfl) (by kernel_rfl) (by kernel_rfl) (fun _ _ _ _ h => h) (by intro W hW; go_simp) hHeld ?_
          simp only [List.setIfInBounds_toArray, List.set_cons_zero, List.set_cons_succ]
          refine held_take 4 162 (.int .i64 u) (by simp only [List.getElem?_toArray, List.getElem?_cons_succ, List.getElem?_cons_zero]; rfl) rfl rfl (by kernel_rfl) (by kernel_rfl) (by kernel_rfl) (fun _ _ _ _ h => h) (by intro W hW; go_simp) hHeld ?_
          simp only [List.setIfInBounds_toArray, List.set_cons_zero, List.set_cons_succ]
          refine held_take 5 163 (.pointer (some ⟨g, (u * 3), none⟩)) (by simp only [List.getElem?_toArray, List.getElem?_cons_succ, List.getElem?_cons_zero]; rfl) rfl rfl (by kernel_rfl) (by kernel_rfl) (by kernel_rfl) (fun _ _ _ _ h => h) (by intro W hW; go_simp) hHeld ?_
          simp only [List.setIfInBounds_toArray, List.set_cons_zero, List.set_cons_succ]
          refine held_take 6 164 (edV x) (by simp only [List.getElem?_toArray, List.getElem?_cons_succ, List.getElem?_cons_zero]; rfl) rfl rfl (by kernel_rfl) (by kernel_rfl) (by kernel_rfl) (fun _ _ _ _ h => h) (fun W hW => exec_loadE rfl rfl hW hx) hHeld ?_
          simp only [List.setIfInBounds_toArray, List.set_cons_zero, List.set_cons_succ]
          refine held_take 7 165 (.slice (some ⟨g, 0, none⟩) nn c) (by simp only [List.getElem?_toArray, List.getElem?_cons_succ, List.getElem?_cons_zero]; rfl) rfl rfl (by kernel_rfl) (by kernel_rfl) (by kernel_rfl) (fun _ _ _ _ h => h) (by intro W hW; go_simp) hHeld ?_
          simp only [List.setIfInBounds_toArray, List.set_cons_zero, List.set_cons_succ]
          refine held_take 8 166 (.int .i64 cc) (by simp only [List.getElem?_toArray, List.getElem?_cons_succ, List.getElem?_cons_zero]; rfl) rfl rfl (by kernel_rfl) (by kernel_rfl) (by kernel_rfl) (fun _ _ _ _ h => h) (by intro W hW; go_simp) hHeld ?_
          simp only [List.setIfInBounds_toArray, List.set_cons_zero, List.set_cons_succ]
          refine held_take 9 167 (.pointer (some ⟨g, (cc * 3), none⟩)) (by simp only [List.getElem?_toArray, List.getElem?_cons_succ, List.getElem?_cons_zero]; rfl) rfl rfl (by kernel_rfl) (by kernel_rfl) (by kernel_rfl) (fun _ _ _ _ h => h) (by intro W hW; go_simp) hHeld ?_
          simp only [List.setIfInBounds_toArray, List.set_cons_zero, List.set_cons_succ]
          refine held_take 10 168 (edV y) (by simp only [List.getElem?_toArray, List.getElem?_cons_succ, List.getElem?_cons_zero]; rfl) rfl rfl (by kernel_rfl) (by kernel_rfl) (by kernel_rfl) (fun _ _ _ _ h => h) (fun W hW => exec_loadE rfl rfl hW hy) hHeld ?_
          simp only [List.setIfInBounds_toArray, List.set_cons_zero, List.set_cons_succ]
          refine held_call 11 169 82 #[edV x, edV y] (by simp only [List.getElem?_toArray, List.getElem?_cons_succ, List.getElem?_cons_zero]; rfl) rfl rfl (by kernel_rfl) (by intro W; go_simp) ?_
          refine (byId x y _).mono ?_
          rintro e w3 ⟨rfl, B3⟩
          have hHeld := hHeld.on B3
          have C3 : Chg [g] wr w3 := (Chg.refl [g] wr).drew.trans (Chg.of_below B3 [g])
          refine ⟨_, rfl, hHeld, ?_⟩
          simp only [List.setIfInBounds_toArray, List.set_cons_zero, List.set_cons_succ]
          refine held_take 12 170 (.bool false) (by simp only [List.getElem?_toArray, List.getElem?_cons_succ, List.getElem?_cons_zero]; rfl) rfl rfl (by kernel_rfl) (by kernel_rfl) (by kernel_rfl) (fun _ _ _ _ h => h) (by intro W hW; go_simp) hHeld ?_
          simp only [List.setIfInBounds_toArray, List.set_cons_zero, List.set_cons_succ]
          refine held_take 13 171 (.bool true) (by simp only [List.getElem?_toArray, List.getElem?_cons_succ, List.getElem?_cons_zero]; rfl) rfl rfl (by kernel_rfl) (by kernel_rfl) (by kernel_rfl) (fun _ _ _ _ h => h) (by intro W hW; go_simp) hHeld ?_
          simp only [List.setIfInBounds_toArray, List.set_cons_zero, List.set_cons_succ]
          refine wpAnyH_done (by kernel_rfl) ?_ _
          go_wp2_with fail
          go_roundw
          case rel =>
            have hh := HH.out
            obtain ⟨b1, b2, b3, b4, b5, b6⟩ := HBD.out
            refine ⟨cc + 1, r, by go_num, rfl, by omega, by omega, by omega, hHeld, ⟨fun p c1 c2 => ?_, hL.out.2⟩, HC.out.trans C3⟩
            by_cases e : p = cc
            · subst e; rw [← b4, HKX.out, HKY.out]; omega
            · have k1 := hA p cc (by have := hs.out; have := HMID.out; omega) (by omega) b5
              have k2 := hB u (pp - p) b1 (by omega) (by have := hs.out; have := HMID.out; have := HPP.out; omega)
              rw [HKY.out] at k1; rw [HKX.out] at k2; omega
          case measure => have := HH.out; simp [intOf]; omega
      · obtain rfl : s = r := by omega
        have hd : decide ((s : Int) < (s : Int)) = false := by simp
        obtain ⟨e, he⟩ : ∃ e, e = mid + m - s := ⟨_, rfl⟩
        have hct : Hid (Cut es a m b s e mid) := by
          show Cut _ _ _ _ _ _ _
          rw [he]
          have e1 : pp = mid + m - 1 := HPP.out
          have hL1 := hL.out
          rw [e1] at hL1
          exact cut_of ham hmb hA hB HMID.out hs.out hi1 hi3 hL1.1 hL1.2
        have q6 : IntKind.i64.wrap ((nm : Int) - (s : Int)) = (e : Int) := by
          have := hct.out.s3; have := HPP2.out
          rw [IntWalk.i64_in _ (by omega)]; omega
        have fin : Hid (∀ es3 es4, Like a mid (rot es s m e) es3 → Srt es3 a mid → Like mid b es3 es4 → Srt es4 mid b → Srt es4 a b) := fun es3 es4 h3 s3 h4 s4 => cut_done hct.out hA hB (by rw [HNN.out]; exact hb) h3 s3 h4 s4 (by have := HMID.out; omega) (by have := HMID.out; omega)
        have hmida : a < mid ∧ mid < b := by have := HMID.out; omega
        obtain ⟨hma, hmb'⟩ := hmida
        have hsa : a ≤ s := hct.out.s1
        clear he
        by_cases v1 : s < m
        · by_cases v2 : m < e
          · have hsm : s < mid := by have := hct.out.mid; omega
            have hme : mid < e := by have := hct.out.mid; omega
            by_cases v3 : a < s
            · by_cases v4 : e < b
              · skip
                have HCT := hct.out
                have hrl := rot_like (es := es) (s := s) (m := m) (e := e) HCT.s2 HCT.e1 (by have := HCT.e2; have := HNN.out; omega)
                have hl2 := hrl.len
                rw [HNN.out] at hl2
                have hf := cut_first HCT hA hB (by rw [HNN.out]; exact hb)
                have hg := cut_second HCT hA hB (by rw [HNN.out]; exact hb)
                have HF := Lib.hid hf
                have HG := Lib.hid hg
                have HRL := Lib.hid hrl
                have HL2 := Lib.hid hl2
                clear hf hg hrl hl2 HCT
                go_wp2_with fail
                refine (rotate_rot g c s m e nn es _ _ HR.out HNN.out (by omega) (by omega) (by have := hct.out.e2; omega)).mono ?_
                rintro _ w5 ⟨rfl, r5, C5⟩
                have HR5 := Lib.hid r5
                have HC5 : Hid (Chg [g] w w5) := HC.out.trans C5
                clear r5 C5
                generalize rot es s m e = es2 at *
                go_wp2_with fail
                refine (hcall es2 a s mid _ HR5.out HL2.out (by omega) (by omega) (by omega) (by omega) HF.out.1 HF.out.2).mono ?_
                rintro _ w6 ⟨rfl, es3, r6, L6, S6, C6⟩
                have HC6 := Lib.hid (HC5.out.trans C6)
                have l6 := L6.len
                rw [HL2.out] at l6
                have G1 := HG.out.1.like L6 (.inr (Nat.le_refl _))
                have G2 := HG.out.2.like L6 (.inr (by have := hct.out.e3; omega))
                have H6 := Lib.hid (And.intro r6 (And.intro L6 (And.intro S6 (And.intro G1 (And.intro G2 l6)))))
                clear r6 L6 S6 G1 G2 l6
                go_wp2_with fail
                have x1 : mid < e := (by omega)
                have x2 : e < b := (by omega)
                have x3 : b - mid ≤ N := (by omega)
                have X := hcall es3 mid e b _ H6.out.1 H6.out.2.2.2.2.2 x1 x2 hb x3 H6.out.2.2.2.1 H6.out.2.2.2.2.1
                refine X.mono ?_
                rintro _ w7 ⟨rfl, es4, r7, L7, S7, C7⟩
                have HC7 := Lib.hid (HC6.out.trans C7)
                go_wp2_with fail
                go_end0
                exact ⟨rfl, _, r7, ((HRL.out.more hct.out.s1 hct.out.e2).trans (H6.out.2.1.more (Nat.le_refl _) (by omega))).trans (L7.more (by omega) (Nat.le_refl _)), fin.out _ _ H6.out.2.1 H6.out.2.2.1 L7 S7, HC7.out⟩
              · have t1 : decide ((e : Int) < (b : Int)) = false := by simp; omega
                have t1n : decide ((e) < (b)) = false := by simp; omega
                have HCT := hct.out
                have hrl := rot_like (es := es) (s := s) (m := m) (e := e) HCT.s2 HCT.e1 (by have := HCT.e2; have := HNN.out; omega)
                have hl2 := hrl.len
                rw [HNN.out] at hl2
                have hf := cut_first HCT hA hB (by rw [HNN.out]; exact hb)
                have hg := cut_second HCT hA hB (by rw [HNN.out]; exact hb)
                have HF := Lib.hid hf
                have HG := Lib.hid hg
                have HRL := Lib.hid hrl
                have HL2 := Lib.hid hl2
                clear hf hg hrl hl2 HCT
                go_wp2_with fail
                refine (rotate_rot g c s m e nn es _ _ HR.out HNN.out (by omega) (by omega) (by have := hct.out.e2; omega)).mono ?_
                rintro _ w5 ⟨rfl, r5, C5⟩
                have HR5 := Lib.hid r5
                have HC5 : Hid (Chg [g] w w5) := HC.out.trans C5
                clear r5 C5
                generalize rot es s m e = es2 at *
                go_wp2_with fail
                refine (hcall es2 a s mid _ HR5.out HL2.out (by omega) (by omega) (by omega) (by omega) HF.out.1 HF.out.2).mono ?_
                rintro _ w6 ⟨rfl, es3, r6, L6, S6, C6⟩
                have HC6 := Lib.hid (HC5.out.trans C6)
                have l6 := L6.len
                rw [HL2.out] at l6
                have G1 := HG.out.1.like L6 (.inr (Nat.le_refl _))
                have G2 := HG.out.2.like L6 (.inr (by have := hct.out.e3; omega))
                have H6 := Lib.hid (And.intro r6 (And.intro L6 (And.intro S6 (And.intro G1 (And.intro G2 l6)))))
                clear r6 L6 S6 G1 G2 l6
                have L7 := Like.refl mid b es3
                have S7 : Srt es3 mid b := fun p q c1 c2 c3 => by first | exact H6.out.2.2.2.2.1 p q (by omega) c2 c3 | exact H6.out.2.2.2.1 p q c1 c2 (by omega)
                have r7 := H6.out.1
                have HC7 := HC6
                go_wp2_with fail
                go_end0
                exact ⟨rfl, _, r7, ((HRL.out.more hct.out.s1 hct.out.e2).trans (H6.out.2.1.more (Nat.le_refl _) (by omega))).trans (L7.more (by omega) (Nat.le_refl _)), fin.out _ _ H6.out.2.1 H6.out.2.2.1 L7 S7, HC7.out⟩
            · have t2 : decide ((a : Int) < (s : Int)) = false := by simp; omega
              have t2n : decide ((a) < (s)) = false := by simp; omega
              by_cases v4 : e < b
              · skip
                have HCT := hct.out
                have hrl := rot_like (es := es) (s := s) (m := m) (e := e) HCT.s2 HCT.e1 (by have := HCT.e2; have := HNN.out; omega)
                have hl2 := hrl.len
                rw [HNN.out] at hl2
                have hf := cut_first HCT hA hB (by rw [HNN.out]; exact hb)
                have hg := cut_second HCT hA hB (by rw [HNN.out]; exact hb)
                have HF := Lib.hid hf
                have HG := Lib.hid hg
                have HRL := Lib.hid hrl
                have HL2 := Lib.hid hl2
                clear hf hg hrl hl2 HCT
                go_wp2_with fail
                refine (rotate_rot g c s m e nn es _ _ HR.out HNN.out (by omega) (by omega) (by have := hct.out.e2; omega)).mono ?_
                rintro _ w5 ⟨rfl, r5, C5⟩
                have HR5 := Lib.hid r5
                have HC5 : Hid (Chg [g] w w5) := HC.out.trans C5
                clear r5 C5
                generalize rot es s m e = es2 at *
                have L6 := Like.refl a mid es2
                have S6 : Srt es2 a mid := fun p q c1 c2 c3 => by first | exact HF.out.2 p q (by omega) c2 c3 | exact HF.out.1 p q c1 c2 (by omega)
                have r6 := HR5.out
                have HC6 := HC5
                obtain ⟨es3, hes3⟩ : ∃ x, x = es2 := ⟨_, rfl⟩
                rw [← hes3] at r6 S6
                have L6 : Like a mid es2 es3 := by rw [hes3]; exact L6
                clear hes3
                have l6 := L6.len
                rw [HL2.out] at l6
                have G1 := HG.out.1.like L6 (.inr (Nat.le_refl _))
                have G2 := HG.out.2.like L6 (.inr (by have := hct.out.e3; omega))
                have H6 := Lib.hid (And.intro r6 (And.intro L6 (And.intro S6 (And.intro G1 (And.intro G2 l6)))))
                clear r6 L6 S6 G1 G2 l6
                go_wp2_with fail
                have x1 : mid < e := (by omega)
                have x2 : e < b := (by omega)
                have x3 : b - mid ≤ N := (by omega)
                have X := hcall es3 mid e b _ H6.out.1 H6.out.2.2.2.2.2 x1 x2 hb x3 H6.out.2.2.2.1 H6.out.2.2.2.2.1
                refine X.mono ?_
                rintro _ w7 ⟨rfl, es4, r7, L7, S7, C7⟩
                have HC7 := Lib.hid (HC6.out.trans C7)
                go_wp2_with fail
                go_end0
                exact ⟨rfl, _, r7, ((HRL.out.more hct.out.s1 hct.out.e2).trans (H6.out.2.1.more (Nat.le_refl _) (by omega))).trans (L7.more (by omega) (Nat.le_refl _)), fin.out _ _ H6.out.2.1 H6.out.2.2.1 L7 S7, HC7.out⟩
              · have t1 : decide ((e : Int) < (b : Int)) = false := by simp; omega
                have t1n : decide ((e) < (b)) = false := by simp; omega
                have HCT := hct.out
                have hrl := rot_like (es := es) (s := s) (m := m) (e := e) HCT.s2 HCT.e1 (by have := HCT.e2; have := HNN.out; omega)
                have hl2 := hrl.len
                rw [HNN.out] at hl2
                have hf := cut_first HCT hA hB (by rw [HNN.out]; exact hb)
                have hg := cut_second HCT hA hB (by rw [HNN.out]; exact hb)
                have HF := Lib.hid hf
                have HG := Lib.hid hg
                have HRL := Lib.hid hrl
                have HL2 := Lib.hid hl2
                clear hf hg hrl hl2 HCT
                go_wp2_with fail
                refine (rotate_rot g c s m e nn es _ _ HR.out HNN.out (by omega) (by omega) (by have := hct.out.e2; omega)).mono ?_
                rintro _ w5 ⟨rfl, r5, C5⟩
                have HR5 := Lib.hid r5
                have HC5 : Hid (Chg [g] w w5) := HC.out.trans C5
                clear r5 C5
                generalize rot es s m e = es2 at *
                have L6 := Like.refl a mid es2
                have S6 : Srt es2 a mid := fun p q c1 c2 c3 => by first | exact HF.out.2 p q (by omega) c2 c3 | exact HF.out.1 p q c1 c2 (by omega)
                have r6 := HR5.out
                have HC6 := HC5
                obtain ⟨es3, hes3⟩ : ∃ x, x = es2 := ⟨_, rfl⟩
                rw [← hes3] at r6 S6
                have L6 : Like a mid es2 es3 := by rw [hes3]; exact L6
                clear hes3
                have l6 := L6.len
                rw [HL2.out] at l6
                have G1 := HG.out.1.like L6 (.inr (Nat.le_refl _))
                have G2 := HG.out.2.like L6 (.inr (by have := hct.out.e3; omega))
                have H6 := Lib.hid (And.intro r6 (And.intro L6 (And.intro S6 (And.intro G1 (And.intro G2 l6)))))
                clear r6 L6 S6 G1 G2 l6
                have L7 := Like.refl mid b es3
                have S7 : Srt es3 mid b := fun p q c1 c2 c3 => by first | exact H6.out.2.2.2.2.1 p q (by omega) c2 c3 | exact H6.out.2.2.2.1 p q c1 c2 (by omega)
                have r7 := H6.out.1
                have HC7 := HC6
                go_wp2_with fail
                go_end0
                exact ⟨rfl, _, r7, ((HRL.out.more hct.out.s1 hct.out.e2).trans (H6.out.2.1.more (Nat.le_refl _) (by omega))).trans (L7.more (by omega) (Nat.le_refl _)), fin.out _ _ H6.out.2.1 H6.out.2.2.1 L7 S7, HC7.out⟩
          · have hsm : s = mid := by have := hct.out.mid; have := hct.out.e1; omega
            have hem : e = m := by have := hct.out.e1; omega
            have has : a < s := by omega
            have hme : mid < e := by omega
            have heb : e < b := by omega
            have t1 : decide ((m : Int) < (e : Int)) = false := by simp; omega
            have t1n : decide ((m) < (e)) = false := by simp; omega
            have t2 : decide ((s : Int) < (mid : Int)) = false := by simp; omega
            have t2n : decide ((s) < (mid)) = false := by simp; omega
            have HSM := Lib.hid hsm
            have HEM := Lib.hid hem
            have HV := Lib.hid v2
            clear hsm hem v2
            have HCT := hct.out
            have hrl := rot_like (es := es) (s := s) (m := m) (e := e) HCT.s2 HCT.e1 (by have := HCT.e2; have := HNN.out; omega)
            have hl2 := hrl.len
            rw [HNN.out] at hl2
            have hf := cut_first HCT hA hB (by rw [HNN.out]; exact hb)
            have hg := cut_second HCT hA hB (by rw [HNN.out]; exact hb)
            have HF := Lib.hid hf
            have HG := Lib.hid hg
            have HRL := Lib.hid hrl
            have HL2 := Lib.hid hl2
            clear hf hg hrl hl2 HCT
            have HR5 : Hid (RowE wr g c (rot es s m e)) := by show RowE _ _ _ _; rw [rot_none hct.out.s2 hct.out.e1 (by have := hct.out.e2; have := HNN.out; omega) (by have := HSM.out; have := HEM.out; have := HV.out; omega)]; exact HR.out
            have HC5 := HC
            obtain ⟨w5, rfl⟩ : ∃ x, x = wr := ⟨_, rfl⟩
            generalize rot es s m e = es2 at *
            have L6 := Like.refl a mid es2
            have S6 : Srt es2 a mid := fun p q c1 c2 c3 => by first | exact HF.out.2 p q (by have := HSM.out; have := HEM.out; have := HV.out; omega) c2 c3 | exact HF.out.1 p q c1 c2 (by have := HSM.out; have := HEM.out; have := HV.out; omega)
            have r6 := HR5.out
            have HC6 := HC5
            obtain ⟨es3, hes3⟩ : ∃ x, x = es2 := ⟨_, rfl⟩
            rw [← hes3] at r6 S6
            have L6 : Like a mid es2 es3 := by rw [hes3]; exact L6
            clear hes3
            have l6 := L6.len
            rw [HL2.out] at l6
            have G1 := HG.out.1.like L6 (.inr (Nat.le_refl _))
            have G2 := HG.out.2.like L6 (.inr (by have := hct.out.e3; omega))
            have H6 := Lib.hid (And.intro r6 (And.intro L6 (And.intro S6 (And.intro G1 (And.intro G2 l6)))))
            clear r6 L6 S6 G1 G2 l6
            go_wp2_with fail
            have x1 : mid < e := (by have := HSM.out; have := HEM.out; have := HV.out; omega)
            have x2 : e < b := (by have := HSM.out; have := HEM.out; have := HV.out; omega)
            have x3 : b - mid ≤ N := (by have := HSM.out; have := HEM.out; have := HV.out; omega)
            have X := hcall es3 mid e b _ H6.out.1 H6.out.2.2.2.2.2 x1 x2 hb x3 H6.out.2.2.2.1 H6.out.2.2.2.2.1
            refine X.mono ?_
            rintro _ w7 ⟨rfl, es4, r7, L7, S7, C7⟩
            have HC7 := Lib.hid (HC6.out.trans C7)
            go_wp2_with fail
            go_end0
            exact ⟨rfl, _, r7, ((HRL.out.more hct.out.s1 hct.out.e2).trans (H6.out.2.1.more (Nat.le_refl _) (by have := HSM.out; have := HEM.out; have := HV.out; omega))).trans (L7.more (by have := HSM.out; have := HEM.out; have := HV.out; omega) (Nat.le_refl _)), fin.out _ _ H6.out.2.1 H6.out.2.2.1 L7 S7, HC7.out⟩
        · have hsm : s = m := by have := hct.out.s2; omega
          have hem : e = mid := by have := hct.out.mid; have := hct.out.e1; omega
          have has : a < s := by omega
          have t1 : decide ((s : Int) < (m : Int)) = false := by simp; omega
          have t1n : decide ((s) < (m)) = false := by simp; omega
          have t2 : decide ((mid : Int) < (e : Int)) = false := by simp; omega
          have t2n : decide ((mid) < (e)) = false := by simp; omega
          have HSM := Lib.hid hsm
          have HEM := Lib.hid hem
          have HV := Lib.hid v1
          by_cases v3 : s < mid
          · clear hsm hem v1
            have HCT := hct.out
            have hrl := rot_like (es := es) (s := s) (m := m) (e := e) HCT.s2 HCT.e1 (by have := HCT.e2; have := HNN.out; omega)
            have hl2 := hrl.len
            rw [HNN.out] at hl2
            have hf := cut_first HCT hA hB (by rw [HNN.out]; exact hb)
            have hg := cut_second HCT hA hB (by rw [HNN.out]; exact hb)
            have HF := Lib.hid hf
            have HG := Lib.hid hg
            have HRL := Lib.hid hrl
            have HL2 := Lib.hid hl2
            clear hf hg hrl hl2 HCT
            have HR5 : Hid (RowE wr g c (rot es s m e)) := by show RowE _ _ _ _; rw [rot_none hct.out.s2 hct.out.e1 (by have := hct.out.e2; have := HNN.out; omega) (by have := HSM.out; have := HEM.out; have := HV.out; omega)]; exact HR.out
            have HC5 := HC
            obtain ⟨w5, rfl⟩ : ∃ x, x = wr := ⟨_, rfl⟩
            generalize rot es s m e = es2 at *
            go_wp2_with fail
            refine (hcall es2 a s mid _ HR5.out HL2.out (by have := HSM.out; have := HEM.out; have := HV.out; omega) (by have := HSM.out; have := HEM.out; have := HV.out; omega) (by have := HSM.out; have := HEM.out; have := HV.out; omega) (by have := HSM.out; have := HEM.out; have := HV.out; omega) HF.out.1 HF.out.2).mono ?_
            rintro _ w6 ⟨rfl, es3, r6, L6, S6, C6⟩
            have HC6 := Lib.hid (HC5.out.trans C6)
            have l6 := L6.len
            rw [HL2.out] at l6
            have G1 := HG.out.1.like L6 (.inr (Nat.le_refl _))
            have G2 := HG.out.2.like L6 (.inr (by have := hct.out.e3; omega))
            have H6 := Lib.hid (And.intro r6 (And.intro L6 (And.intro S6 (And.intro G1 (And.intro G2 l6)))))
            clear r6 L6 S6 G1 G2 l6
            have L7 := Like.refl mid b es3
            have S7 : Srt es3 mid b := fun p q c1 c2 c3 => by first | exact H6.out.2.2.2.2.1 p q (by have := HSM.out; have := HEM.out; have := HV.out; omega) c2 c3 | exact H6.out.2.2.2.1 p q c1 c2 (by have := HSM.out; have := HEM.out; have := HV.out; omega)
            have r7 := H6.out.1
            have HC7 := HC6
            go_wp2_with fail
            go_end0
            exact ⟨rfl, _, r7, ((HRL.out.more hct.out.s1 hct.out.e2).trans (H6.out.2.1.more (Nat.le_refl _) (by have := HSM.out; have := HEM.out; have := HV.out; omega))).trans (L7.more (by have := HSM.out; have := HEM.out; have := HV.out; omega) (Nat.le_refl _)), fin.out _ _ H6.out.2.1 H6.out.2.2.1 L7 S7, HC7.out⟩
          · have t3 : decide ((s : Int) < (mid : Int)) = false := by simp; omega
            have t3n : decide ((s) < (mid)) = false := by simp; omega
            have HV3 := Lib.hid v3
            clear hsm hem v1 v3
            have HCT := hct.out
            have hrl := rot_like (es := es) (s := s) (m := m) (e := e) HCT.s2 HCT.e1 (by have := HCT.e2; have := HNN.out; omega)
            have hl2 := hrl.len
            rw [HNN.out] at hl2
            have hf := cut_first HCT hA hB (by rw [HNN.out]; exact hb)
            have hg := cut_second HCT hA hB (by rw [HNN.out]; exact hb)
            have HF := Lib.hid hf
            have HG := Lib.hid hg
            have HRL := Lib.hid hrl
            have HL2 := Lib.hid hl2
            clear hf hg hrl hl2 HCT
            have HR5 : Hid (RowE wr g c (rot es s m e)) := by show RowE _ _ _ _; rw [rot_none hct.out.s2 hct.out.e1 (by have := hct.out.e2; have := HNN.out; omega) (by have := HSM.out; have := HEM.out; have := HV.out; have := HV3.out; omega)]; exact HR.out
            have HC5 := HC
            obtain ⟨w5, rfl⟩ : ∃ x, x = wr := ⟨_, rfl⟩
            generalize rot es s m e = es2 at *
            have L6 := Like.refl a mid es2
            have S6 : Srt es2 a mid := fun p q c1 c2 c3 => by first | exact HF.out.2 p q (by have := HSM.out; have := HEM.out; have := HV.out; have := HV3.out; omega) c2 c3 | exact HF.out.1 p q c1 c2 (by have := HSM.out; have := HEM.out; have := HV.out; have := HV3.out; omega)
            have r6 := HR5.out
            have HC6 := HC5
            obtain ⟨es3, hes3⟩ : ∃ x, x = es2 := ⟨_, rfl⟩
            rw [← hes3] at r6 S6
            have L6 : Like a mid es2 es3 := by rw [hes3]; exact L6
            clear hes3
            have l6 := L6.len
            rw [HL2.out] at l6
            have G1 := HG.out.1.like L6 (.inr (Nat.le_refl _))
            have G2 := HG.out.2.like L6 (.inr (by have := hct.out.e3; omega))
            have H6 := Lib.hid (And.intro r6 (And.intro L6 (And.intro S6 (And.intro G1 (And.intro G2 l6)))))
            clear r6 L6 S6 G1 G2 l6
            have L7 := Like.refl mid b es3
            have S7 : Srt es3 mid b := fun p q c1 c2 c3 => by first | exact H6.out.2.2.2.2.1 p q (by have := HSM.out; have := HEM.out; have := HV.out; have := HV3.out; omega) c2 c3 | exact H6.out.2.2.2.1 p q c1 c2 (by have := HSM.out; have := HEM.out; have := HV.out; have := HV3.out; omega)
            have r7 := H6.out.1
            have HC7 := HC6
            go_wp2_with fail
            go_end0
            exact ⟨rfl, _, r7, ((HRL.out.more hct.out.s1 hct.out.e2).trans (H6.out.2.1.more (Nat.le_refl _) (by have := HSM.out; have := HEM.out; have := HV.out; have := HV3.out; omega))).trans (L7.more (by have := HSM.out; have := HEM.out; have := HV.out; have := HV3.out; omega) (Nat.le_refl _)), fin.out _ _ H6.out.2.1 H6.out.2.2.1 L7 S7, HC7.out⟩
  · obtain ⟨start0, hs0⟩ : ∃ x, x = a := ⟨_, rfl⟩
    obtain ⟨r0, hr0⟩ : ∃ x, x = m := ⟨_, rfl⟩
    have hs : Hid ((mid < m ∧ start0 = mid + m - b ∧ r0 = mid) ∨ (m ≤ mid ∧ start0 = a ∧ r0 = m)) := .inr ⟨by omega, hs0, hr0⟩
    have hmm2 : decide ((mid : Int) < (m : Int)) = false := by simp; omega
    have hmm4 : decide (mid < m) = false := by simp; omega
    have hmm3 : m ≤ mid := by omega
    clear hnm hmid hmm
    go_enter Try.func141, Try.ntmps141
    go_wp2_with fail
    go_loopw [20, 21, 23] (fun s20 s21 _ wr => ∃ (s r : Nat), s20 = .int .i64 s ∧ s21 = .int .i64 r ∧ start0 ≤ s ∧ s ≤ r ∧ r ≤ r0 ∧ RowE wr g c es ∧ Hid ((∀ q, start0 ≤ q → q < s → K es q ≤ K es (pp - q)) ∧ (∀ q, r ≤ q → q < r0 → K es (pp - q) < K es q)) ∧ Chg [g] w wr) (fun s20 s21 _ _ => (intOf s21).toNat - (intOf s20).toNat)
    case atStart => exact ⟨start0, r0, by go_num, by go_num, Nat.le_refl _, by have := hs.out; have := HMID.out; omega, Nat.le_refl _, HW.out, ⟨fun p h1 h2 => by omega, fun p h1 h2 => by omega⟩, Chg.refl _ _⟩
    case round =>
      clear HW
      obtain ⟨s, r, rfl, rfl, hi1, hi2, hi3, hr, hL, hC⟩ := hrel
      have HR := Lib.hid hr
      have HC := Lib.hid hC
      clear hr hC
      by_cases hlt : s < r
      · obtain ⟨cc, hh⟩ : ∃ cc, cc = (s + r) / 2 := ⟨_, rfl⟩
        obtain ⟨u, hu⟩ : ∃ u, u = pp - cc := ⟨_, rfl⟩
        have hbd : m ≤ u ∧ u < b ∧ cc ≤ pp ∧ u = pp - cc ∧ cc < m ∧ cc < r0 := by have := hs.out; have := HMID.out; have := HPP.out; omega
        have hcl : cc < es.length := by have := HNN.out; omega
        have hul : u < es.length := by have := HNN.out; omega
        have hx : es[u]? = some es[u] := List.getElem?_eq_getElem hul
        have hy : es[cc]? = some es[cc] := List.getElem?_eq_getElem hcl
        generalize es[u] = x at hx
        generalize es[cc] = y at hy
        have HKX := Lib.hid (K_at hx)
        have HKY := Lib.hid (K_at hy)
        have q1 : IntKind.i64.wrap ((s : Int) + (r : Int)) = (s : Int) + (r : Int) := IntWalk.i64_in _ (by have := hs.out; have := HMID.out; omega)
        have q2 : cc < nn := by omega
        have q3 : u < nn := by omega
        have q0 : ((s : Int) + (r : Int)) / 2 = (cc : Int) := by omega
        have q5 : IntKind.i64.wrap ((pp : Int) - (cc : Int)) = (u : Int) := by rw [IntWalk.i64_in _ (by omega)]; omega
        have HH := Lib.hid hh
        have HBD := Lib.hid hbd
        have q4 : IntKind.i64.wrap ((cc : Int) + 1) = ((cc + 1 : Nat) : Int) := by rw [IntWalk.i64_in _ (by omega)]; omega
        clear hh hbd hu
        by_cases hk : x.1 < y.1
        · have hdec2 : cmpN x.1 y.1 < 0 := by have := cmpN_lt x.1 y.1; simpa [hk] using this
          go_wp2_with fail
          refine wp_region_held_drew (S := fun W => RowE W g c es) (by kernel_rfl) HR.out.drew' (fun hHeld => ?_)
          refine held_take 0 158 (.func (.func 82) #[] #[]) (by simp only [List.getElem?_toArray, List.getElem?_cons_zero]; rfl) rfl rfl (by kernel_rfl) (by kernel_rfl) (by kernel_rfl) (fun _ _ _ _ h => h) (by intro W hW; go_simp) hHeld ?_
          simp only [List.setIfInBounds_toArray, List.set_cons_zero, List.set_cons_succ]
          refine held_take 1 159 (.slice (some ⟨g, 0, none⟩) nn c) (by simp only [List.getElem?_toArray, List.getElem?_cons_succ, List.getElem?_cons_zero]; rfl) rfl rfl (by kernel_rfl) (by kernel_rfl) (by kernel_rfl) (fun _ _ _ _ h => h) (by intro W hW; go_simp) hHeld ?_
          simp only [List.setIfInBounds_toArray, List.set_cons_zero, List.set_cons_succ]
          refine held_take 2 160 (.int .i64 pp) (by simp only [List.getElem?_toArray, List.getElem?_cons_succ, List.getElem?_cons_zero]; rfl) rfl rfl (by kernel_rfl) (by kernel_rfl) (by kernel_rfl) (fun _ _ _ _ h => h) (by intro W hW; go_simp) hHeld ?_
          simp only [List.setIfInBounds_toArray, List.set_cons_zero, List.set_cons_succ]
          refine held_take 3 161 (.int .i64 cc) (by simp only [List.getElem?_toArray, List.getElem?_cons_succ, List.getElem?_cons_zero]; rfl) rfl rfl (by kernel_rfl) (by kernel_rfl) (by kernel_rfl) (fun _ _ _ _ h => h) (by intro W hW; go_simp) hHeld ?_
          simp only [List.setIfInBounds_toArray, List.set_cons_zero, List.set_cons_succ]
          refine held_take 4 162 (.int .i64 u) (by simp only [List.getElem?_toArray, List.getElem?_cons_succ, List.getElem?_cons_zero]; rfl) rfl rfl (by kernel_rfl) (by kernel_rfl) (by kernel_rfl) (fun _ _ _ _ h => h) (by intro W hW; go_simp) hHeld ?_
          simp only [List.setIfInBounds_toArray, List.set_cons_zero, List.set_cons_succ]
          refine held_take 5 163 (.pointer (some ⟨g, (u * 3), none⟩)) (by simp only [List.getElem?_toArray, List.getElem?_cons_succ, List.getElem?_cons_zero]; rfl) rfl rfl (by kernel_rfl) (by kernel_rfl) (by kernel_rfl) (fun _ _ _ _ h => h) (by intro W hW; go_simp) hHeld ?_
          simp only [List.setIfInBounds_toArray, List.set_cons_zero, List.set_cons_succ]
          refine held_take 6 164 (edV x) (by simp only [List.getElem?_toArray, List.getElem?_cons_succ, List.getElem?_cons_zero]; rfl) rfl rfl (by kernel_rfl) (by kernel_rfl) (by kernel_rfl) (fun _ _ _ _ h => h) (fun W hW => exec_loadE rfl rfl hW hx) hHeld ?_
          simp only [List.setIfInBounds_toArray, List.set_cons_zero, List.set_cons_succ]
          refine held_take 7 165 (.slice (some ⟨g, 0, none⟩) nn c) (by simp only [List.getElem?_toArray, List.getElem?_cons_succ, List.getElem?_cons_zero]; rfl) rfl rfl (by kernel_rfl) (by kernel_rfl) (by kernel_rfl) (fun _ _ _ _ h => h) (by intro W hW; go_simp) hHeld ?_
          simp only [List.setIfInBounds_toArray, List.set_cons_zero, List.set_cons_succ]
          refine held_take 8 166 (.int .i64 cc) (by simp only [List.getElem?_toArray, List.getElem?_cons_succ, List.getElem?_cons_zero]; rfl) rfl rfl (by kernel_rfl) (by kernel_rfl) (by kernel_rfl) (fun _ _ _ _ h => h) (by intro W hW; go_simp) hHeld ?_
          simp only [List.setIfInBounds_toArray, List.set_cons_zero, List.set_cons_succ]
          refine held_take 9 167 (.pointer (some ⟨g, (cc * 3), none⟩)) (by simp only [List.getElem?_toArray, List.getElem?_cons_succ, List.getElem?_cons_zero]; rfl) rfl rfl (by kernel_rfl) (by kernel_rfl) (by kernel_rfl) (fun _ _ _ _ h => h) (by intro W hW; go_simp) hHeld ?_
          simp only [List.setIfInBounds_toArray, List.set_cons_zero, List.set_cons_succ]
          refine held_take 10 168 (edV y) (by simp only [List.getElem?_toArray, List.getElem?_cons_succ, List.getElem?_cons_zero]; rfl) rfl rfl (by kernel_rfl) (by kernel_rfl) (by kernel_rfl) (fun _ _ _ _ h => h) (fun W hW => exec_loadE rfl rfl hW hy) hHeld ?_
          simp only [List.setIfInBounds_toArray, List.set_cons_zero, List.set_cons_succ]
          refine held_call 11 169 82 #[edV x, edV y] (by simp only [List.getElem?_toArray, List.getElem?_cons_succ, List.getElem?_cons_zero]; rfl) rfl rfl (by kernel_rfl) (by intro W; go_simp) ?_
          refine (byId x y _).mono ?_
          rintro e w3 ⟨rfl, B3⟩
          have hHeld := hHeld.on B3
          have C3 : Chg [g] wr w3 := (Chg.refl [g] wr).drew.trans (Chg.of_below B3 [g])
          refine ⟨_, rfl, hHeld, ?_⟩
          simp only [List.setIfInBounds_toArray, List.set_cons_zero, List.set_cons_succ]
          refine held_take 12 170 (.bool true) (by simp only [List.getElem?_toArray, List.getElem?_cons_succ, List.getElem?_cons_zero]; rfl) rfl rfl (by kernel_rfl) (by kernel_rfl) (by kernel_rfl) (fun _ _ _ _ h => h) (by intro W hW; go_simp) hHeld ?_
          simp only [List.setIfInBounds_toArray, List.set_cons_zero, List.set_cons_succ]
          refine held_take 13 171 (.bool false) (by simp only [List.getElem?_toArray, List.getElem?_cons_succ, List.getElem?_cons_zero]; rfl) rfl rfl (by kernel_rfl) (by kernel_rfl) (by kernel_rfl) (fun _ _ _ _ h => h) (by intro W hW; go_simp) hHeld ?_
          simp only [List.setIfInBounds_toArray, List.set_cons_zero, List.set_cons_succ]
          refine wpAnyH_done (by kernel_rfl) ?_ _
          go_wp2_with fail
          go_roundw
          case rel =>
            have hh := HH.out
            obtain ⟨b1, b2, b3, b4, b5, b6⟩ := HBD.out
            refine ⟨s, cc, rfl, rfl, by omega, by omega, by omega, hHeld, ⟨hL.out.1, fun p c1 c2 => ?_⟩, HC.out.trans C3⟩
            by_cases e : p = cc
            · subst e; rw [← b4, HKX.out, HKY.out]; exact hk
            · have k1 := hA cc p (by have := hs.out; have := HMID.out; omega) (by omega) (by have := hs.out; omega)
              have k2 := hB (pp - p) u (by have := hs.out; have := HMID.out; have := HPP.out; omega) (by omega) b2
              rw [HKY.out] at k1; rw [HKX.out] at k2; omega
          case measure => have := HH.out; simp [intOf]; omega
        · have hdec2 : ¬ cmpN x.1 y.1 < 0 := by have := cmpN_lt x.1 y.1; simpa [hk] using this
          go_wp2_with fail
          refine wp_region_held_drew (S := fun W => RowE W g c es) (by kernel_rfl) HR.out.drew' (fun hHeld => ?_)
          refine held_take 0 158 (.func (.func 82) #[] #[]) (by simp only [List.getElem?_toArray, List.getElem?_cons_zero]; rfl) rfl rfl (by kernel_rfl) (by kernel_rfl) (by kernel_rfl) (fun _ _ _ _ h => h) (by intro W hW; go_simp) hHeld ?_
          simp only [List.setIfInBounds_toArray, List.set_cons_zero, List.set_cons_succ]
          refine held_take 1 159 (.slice (some ⟨g, 0, none⟩) nn c) (by simp only [List.getElem?_toArray, List.getElem?_cons_succ, List.getElem?_cons_zero]; rfl) rfl rfl (by kernel_rfl) (by kernel_rfl) (by kernel_rfl) (fun _ _ _ _ h => h) (by intro W hW; go_simp) hHeld ?_
          simp only [List.setIfInBounds_toArray, List.set_cons_zero, List.set_cons_succ]
          refine held_take 2 160 (.int .i64 pp) (by simp only [List.getElem?_toArray, List.getElem?_cons_succ, List.getElem?_cons_zero]; rfl) rfl rfl (by kernel_rfl) (by kernel_rfl) (by kernel_rfl) (fun _ _ _ _ h => h) (by intro W hW; go_simp) hHeld ?_
          simp only [List.setIfInBounds_toArray, List.set_cons_zero, List.set_cons_succ]
          refine held_take 3 161 (.int .i64 cc) (by simp only [List.getElem?_toArray, List.getElem?_cons_succ, List.getElem?_cons_zero]; rfl) rfl rfl (by kernel_rfl) (by kernel_rfl) (by kernel_rfl) (fun _ _ _ _ h => h) (by intro W hW; go_simp) hHeld ?_
          simp only [List.setIfInBounds_toArray, List.set_cons_zero, List.set_cons_succ]
          refine held_take 4 162 (.int .i64 u) (by simp only [List.getElem?_toArray, List.getElem?_cons_succ, List.getElem?_cons_zero]; rfl) rfl rfl (by kernel_rfl) (by kernel_rfl) (by kernel_rfl) (fun _ _ _ _ h => h) (by intro W hW; go_simp) hHeld ?_
          simp only [List.setIfInBounds_toArray, List.set_cons_zero, List.set_cons_succ]
          refine held_take 5 163 (.pointer (some ⟨g, (u * 3), none⟩)) (by simp only [List.getElem?_toArray, List.getElem?_cons_succ, List.getElem?_cons_zero]; rfl) rfl rfl (by kernel_rfl) (by kernel_rfl) (by kernel_rfl) (fun _ _ _ _ h => h) (by intro W hW; go_simp) hHeld ?_
          simp only [List.setIfInBounds_toArray, List.set_cons_zero, List.set_cons_succ]
          refine held_take 6 164 (edV x) (by simp only [List.getElem?_toArray, List.getElem?_cons_succ, List.getElem?_cons_zero]; rfl) rfl rfl (by kernel_rfl) (by kernel_rfl) (by kernel_rfl) (fun _ _ _ _ h => h) (fun W hW => exec_loadE rfl rfl hW hx) hHeld ?_
          simp only [List.setIfInBounds_toArray, List.set_cons_zero, List.set_cons_succ]
          refine held_take 7 165 (.slice (some ⟨g, 0, none⟩) nn c) (by simp only [List.getElem?_toArray, List.getElem?_cons_succ, List.getElem?_cons_zero]; rfl) rfl rfl (by kernel_rfl) (by kernel_rfl) (by kernel_rfl) (fun _ _ _ _ h => h) (by intro W hW; go_simp) hHeld ?_
          simp only [List.setIfInBounds_toArray, List.set_cons_zero, List.set_cons_succ]
          refine held_take 8 166 (.int .i64 cc) (by simp only [List.getElem?_toArray, List.getElem?_cons_succ, List.getElem?_cons_zero]; rfl) rfl rfl (by kernel_rfl) (by kernel_rfl) (by kernel_rfl) (fun _ _ _ _ h => h) (by intro W hW; go_simp) hHeld ?_
          simp only [List.setIfInBounds_toArray, List.set_cons_zero, List.set_cons_succ]
          refine held_take 9 167 (.pointer (some ⟨g, (cc * 3), none⟩)) (by simp only [List.getElem?_toArray, List.getElem?_cons_succ, List.getElem?_cons_zero]; rfl) rfl rfl (by kernel_rfl) (by kernel_rfl) (by kernel_rfl) (fun _ _ _ _ h => h) (by intro W hW; go_simp) hHeld ?_
          simp only [List.setIfInBounds_toArray, List.set_cons_zero, List.set_cons_succ]
          refine held_take 10 168 (edV y) (by simp only [List.getElem?_toArray, List.getElem?_cons_succ, List.getElem?_cons_zero]; rfl) rfl rfl (by kernel_rfl) (by kernel_rfl) (by kernel_rfl) (fun _ _ _ _ h => h) (fun W hW => exec_loadE rfl rfl hW hy) hHeld ?_
          simp only [List.setIfInBounds_toArray, List.set_cons_zero, List.set_cons_succ]
          refine held_call 11 169 82 #[edV x, edV y] (by simp only [List.getElem?_toArray, List.getElem?_cons_succ, List.getElem?_cons_zero]; rfl) rfl rfl (by kernel_rfl) (by intro W; go_simp) ?_
          refine (byId x y _).mono ?_
          rintro e w3 ⟨rfl, B3⟩
          have hHeld := hHeld.on B3
          have C3 : Chg [g] wr w3 := (Chg.refl [g] wr).drew.trans (Chg.of_below B3 [g])
          refine ⟨_, rfl, hHeld, ?_⟩
          simp only [List.setIfInBounds_toArray, List.set_cons_zero, List.set_cons_succ]
          refine held_take 12 170 (.bool false) (by simp only [List.getElem?_toArray, List.getElem?_cons_succ, List.getElem?_cons_zero]; rfl) rfl rfl (by kernel_rfl) (by kernel_rfl) (by kernel_rfl) (fun _ _ _ _ h => h) (by intro W hW; go_simp) hHeld ?_
          simp only [List.setIfInBounds_toArray, List.set_cons_zero, List.set_cons_succ]
          refine held_take 13 171 (.bool true) (by simp only [List.getElem?_toArray, List.getElem?_cons_succ, List.getElem?_cons_zero]; rfl) rfl rfl (by kernel_rfl) (by kernel_rfl) (by kernel_rfl) (fun _ _ _ _ h => h) (by intro W hW; go_simp) hHeld ?_
          simp only [List.setIfInBounds_toArray, List.set_cons_zero, List.set_cons_succ]
          refine wpAnyH_done (by kernel_rfl) ?_ _
          go_wp2_with fail
          go_roundw
          case rel =>
            have hh := HH.out
            obtain ⟨b1, b2, b3, b4, b5, b6⟩ := HBD.out
            refine ⟨cc + 1, r, by go_num, rfl, by omega, by omega, by omega, hHeld, ⟨fun p c1 c2 => ?_, hL.out.2⟩, HC.out.trans C3⟩
            by_cases e : p = cc
            · subst e; rw [← b4, HKX.out, HKY.out]; omega
            · have k1 := hA p cc (by have := hs.out; have := HMID.out; omega) (by omega) b5
              have k2 := hB u (pp - p) b1 (by omega) (by have := hs.out; have := HMID.out; have := HPP.out; omega)
              rw [HKY.out] at k1; rw [HKX.out] at k2; omega
          case measure => have := HH.out; simp [intOf]; omega
      · obtain rfl : s = r := by omega
        have hd : decide ((s : Int) < (s : Int)) = false := by simp
        obtain ⟨e, he⟩ : ∃ e, e = mid + m - s := ⟨_, rfl⟩
        have hct : Hid (Cut es a m b s e mid) := by
          show Cut _ _ _ _ _ _ _
          rw [he]
          have e1 : pp = mid + m - 1 := HPP.out
          have hL1 := hL.out
          rw [e1] at hL1
          exact cut_of ham hmb hA hB HMID.out hs.out hi1 hi3 hL1.1 hL1.2
        have q6 : IntKind.i64.wrap ((nm : Int) - (s : Int)) = (e : Int) := by
          have := hct.out.s3; have := HPP2.out
          rw [IntWalk.i64_in _ (by omega)]; omega
        have fin : Hid (∀ es3 es4, Like a mid (rot es s m e) es3 → Srt es3 a mid → Like mid b es3 es4 → Srt es4 mid b → Srt es4 a b) := fun es3 es4 h3 s3 h4 s4 => cut_done hct.out hA hB (by rw [HNN.out]; exact hb) h3 s3 h4 s4 (by have := HMID.out; omega) (by have := HMID.out; omega)
        have hmida : a < mid ∧ mid < b := by have := HMID.out; omega
        obtain ⟨hma, hmb'⟩ := hmida
        have hsa : a ≤ s := hct.out.s1
        clear he
        by_cases v1 : s < m
        · by_cases v2 : m < e
          · have hsm : s < mid := by have := hct.out.mid; omega
            have hme : mid < e := by have := hct.out.mid; omega
            by_cases v3 : a < s
            · by_cases v4 : e < b
              · skip
                have HCT := hct.out
                have hrl := rot_like (es := es) (s := s) (m := m) (e := e) HCT.s2 HCT.e1 (by have := HCT.e2; have := HNN.out; omega)
                have hl2 := hrl.len
                rw [HNN.out] at hl2
                have hf := cut_first HCT hA hB (by rw [HNN.out]; exact hb)
                have hg := cut_second HCT hA hB (by rw [HNN.out]; exact hb)
                have HF := Lib.hid hf
                have HG := Lib.hid hg
                have HRL := Lib.hid hrl
                have HL2 := Lib.hid hl2
                clear hf hg hrl hl2 HCT
                go_wp2_with fail
                refine (rotate_rot g c s m e nn es _ _ HR.out HNN.out (by omega) (by omega) (by have := hct.out.e2; omega)).mono ?_
                rintro _ w5 ⟨rfl, r5, C5⟩
                have HR5 := Lib.hid r5
                have HC5 : Hid (Chg [g] w w5) := HC.out.trans C5
                clear r5 C5
                generalize rot es s m e = es2 at *
                go_wp2_with fail
                refine (hcall es2 a s mid _ HR5.out HL2.out (by omega) (by omega) (by omega) (by omega) HF.out.1 HF.out.2).mono ?_
                rintro _ w6 ⟨rfl, es3, r6, L6, S6, C6⟩
                have HC6 := Lib.hid (HC5.out.trans C6)
                have l6 := L6.len
                rw [HL2.out] at l6
                have G1 := HG.out.1.like L6 (.inr (Nat.le_refl _))
                have G2 := HG.out.2.like L6 (.inr (by have := hct.out.e3; omega))
                have H6 := Lib.hid (And.intro r6 (And.intro L6 (And.intro S6 (And.intro G1 (And.intro G2 l6)))))
                clear r6 L6 S6 G1 G2 l6
                go_wp2_with fail
                have x1 : mid < e := (by omega)
                have x2 : e < b := (by omega)
                have x3 : b - mid ≤ N := (by omega)
                have X := hcall es3 mid e b _ H6.out.1 H6.out.2.2.2.2.2 x1 x2 hb x3 H6.out.2.2.2.1 H6.out.2.2.2.2.1
                refine X.mono ?_
                rintro _ w7 ⟨rfl, es4, r7, L7, S7, C7⟩
                have HC7 := Lib.hid (HC6.out.trans C7)
                go_wp2_with fail
                go_end0
                exact ⟨rfl, _, r7, ((HRL.out.more hct.out.s1 hct.out.e2).trans (H6.out.2.1.more (Nat.le_refl _) (by omega))).trans (L7.more (by omega) (Nat.le_refl _)), fin.out _ _ H6.out.2.1 H6.out.2.2.1 L7 S7, HC7.out⟩
              · have t1 : decide ((e : Int) < (b : Int)) = false := by simp; omega
                have t1n : decide ((e) < (b)) = false := by simp; omega
                have HCT := hct.out
                have hrl := rot_like (es := es) (s := s) (m := m) (e := e) HCT.s2 HCT.e1 (by have := HCT.e2; have := HNN.out; omega)
                have hl2 := hrl.len
                rw [HNN.out] at hl2
                have hf := cut_first HCT hA hB (by rw [HNN.out]; exact hb)
                have hg := cut_second HCT hA hB (by rw [HNN.out]; exact hb)
                have HF := Lib.hid hf
                have HG := Lib.hid hg
                have HRL := Lib.hid hrl
                have HL2 := Lib.hid hl2
                clear hf hg hrl hl2 HCT
                go_wp2_with fail
                refine (rotate_rot g c s m e nn es _ _ HR.out HNN.out (by omega) (by omega) (by have := hct.out.e2; omega)).mono ?_
                rintro _ w5 ⟨rfl, r5, C5⟩
                have HR5 := Lib.hid r5
                have HC5 : Hid (Chg [g] w w5) := HC.out.trans C5
                clear r5 C5
                generalize rot es s m e = es2 at *
                go_wp2_with fail
                refine (hcall es2 a s mid _ HR5.out HL2.out (by omega) (by omega) (by omega) (by omega) HF.out.1 HF.out.2).mono ?_
                rintro _ w6 ⟨rfl, es3, r6, L6, S6, C6⟩
                have HC6 := Lib.hid (HC5.out.trans C6)
                have l6 := L6.len
                rw [HL2.out] at l6
                have G1 := HG.out.1.like L6 (.inr (Nat.le_refl _))
                have G2 := HG.out.2.like L6 (.inr (by have := hct.out.e3; omega))
                have H6 := Lib.hid (And.intro r6 (And.intro L6 (And.intro S6 (And.intro G1 (And.intro G2 l6)))))
                clear r6 L6 S6 G1 G2 l6
                have L7 := Like.refl mid b es3
                have S7 : Srt es3 mid b := fun p q c1 c2 c3 => by first | exact H6.out.2.2.2.2.1 p q (by omega) c2 c3 | exact H6.out.2.2.2.1 p q c1 c2 (by omega)
                have r7 := H6.out.1
                have HC7 := HC6
                go_wp2_with fail
                go_end0
                exact ⟨rfl, _, r7, ((HRL.out.more hct.out.s1 hct.out.e2).trans (H6.out.2.1.more (Nat.le_refl _) (by omega))).trans (L7.more (by omega) (Nat.le_refl _)), fin.out _ _ H6.out.2.1 H6.out.2.2.1 L7 S7, HC7.out⟩
            · have t2 : decide ((a : Int) < (s : Int)) = false := by simp; omega
              have t2n : decide ((a) < (s)) = false := by simp; omega
              by_cases v4 : e < b
              · skip
                have HCT := hct.out
                have hrl := rot_like (es := es) (s := s) (m := m) (e := e) HCT.s2 HCT.e1 (by have := HCT.e2; have := HNN.out; omega)
                have hl2 := hrl.len
                rw [HNN.out] at hl2
                have hf := cut_first HCT hA hB (by rw [HNN.out]; exact hb)
                have hg := cut_second HCT hA hB (by rw [HNN.out]; exact hb)
                have HF := Lib.hid hf
                have HG := Lib.hid hg
                have HRL := Lib.hid hrl
                have HL2 := Lib.hid hl2
                clear hf hg hrl hl2 HCT
                go_wp2_with fail
                refine (rotate_rot g c s m e nn es _ _ HR.out HNN.out (by omega) (by omega) (by have := hct.out.e2; omega)).mono ?_
                rintro _ w5 ⟨rfl, r5, C5⟩
                have HR5 := Lib.hid r5
                have HC5 : Hid (Chg [g] w w5) := HC.out.trans C5
                clear r5 C5
                generalize rot es s m e = es2 at *
                have L6 := Like.refl a mid es2
                have S6 : Srt es2 a mid := fun p q c1 c2 c3 => by first | exact HF.out.2 p q (by omega) c2 c3 | exact HF.out.1 p q c1 c2 (by omega)
                have r6 := HR5.out
                have HC6 := HC5
                obtain ⟨es3, hes3⟩ : ∃ x, x = es2 := ⟨_, rfl⟩
                rw [← hes3] at r6 S6
                have L6 : Like a mid es2 es3 := by rw [hes3]; exact L6
                clear hes3
                have l6 := L6.len
                rw [HL2.out] at l6
                have G1 := HG.out.1.like L6 (.inr (Nat.le_refl _))
                have G2 := HG.out.2.like L6 (.inr (by have := hct.out.e3; omega))
                have H6 := Lib.hid (And.intro r6 (And.intro L6 (And.intro S6 (And.intro G1 (And.intro G2 l6)))))
                clear r6 L6 S6 G1 G2 l6
                go_wp2_with fail
                have x1 : mid < e := (by omega)
                have x2 : e < b := (by omega)
                have x3 : b - mid ≤ N := (by omega)
                have X := hcall es3 mid e b _ H6.out.1 H6.out.2.2.2.2.2 x1 x2 hb x3 H6.out.2.2.2.1 H6.out.2.2.2.2.1
                refine X.mono ?_
                rintro _ w7 ⟨rfl, es4, r7, L7, S7, C7⟩
                have HC7 := Lib.hid (HC6.out.trans C7)
                go_wp2_with fail
                go_end0
                exact ⟨rfl, _, r7, ((HRL.out.more hct.out.s1 hct.out.e2).trans (H6.out.2.1.more (Nat.le_refl _) (by omega))).trans (L7.more (by omega) (Nat.le_refl _)), fin.out _ _ H6.out.2.1 H6.out.2.2.1 L7 S7, HC7.out⟩
              · have t1 : decide ((e : Int) < (b : Int)) = false := by simp; omega
                have t1n : decide ((e) < (b)) = false := by simp; omega
                have HCT := hct.out
                have hrl := rot_like (es := es) (s := s) (m := m) (e := e) HCT.s2 HCT.e1 (by have := HCT.e2; have := HNN.out; omega)
                have hl2 := hrl.len
                rw [HNN.out] at hl2
                have hf := cut_first HCT hA hB (by rw [HNN.out]; exact hb)
                have hg := cut_second HCT hA hB (by rw [HNN.out]; exact hb)
                have HF := Lib.hid hf
                have HG := Lib.hid hg
                have HRL := Lib.hid hrl
                have HL2 := Lib.hid hl2
                clear hf hg hrl hl2 HCT
                go_wp2_with fail
                refine (rotate_rot g c s m e nn es _ _ HR.out HNN.out (by omega) (by omega) (by have := hct.out.e2; omega)).mono ?_
                rintro _ w5 ⟨rfl, r5, C5⟩
                have HR5 := Lib.hid r5
                have HC5 : Hid (Chg [g] w w5) := HC.out.trans C5
                clear r5 C5
                generalize rot es s m e = es2 at *
                have L6 := Like.refl a mid es2
                have S6 : Srt es2 a mid := fun p q c1 c2 c3 => by first | exact HF.out.2 p q (by omega) c2 c3 | exact HF.out.1 p q c1 c2 (by omega)
                have r6 := HR5.out
                have HC6 := HC5
                obtain ⟨es3, hes3⟩ : ∃ x, x = es2 := ⟨_, rfl⟩
                rw [← hes3] at r6 S6
                have L6 : Like a mid es2 es3 := by rw [hes3]; exact L6
                clear hes3
                have l6 := L6.len
                rw [HL2.out] at l6
                have G1 := HG.out.1.like L6 (.inr (Nat.le_refl _))
                have G2 := HG.out.2.like L6 (.inr (by have := hct.out.e3; omega))
                have H6 := Lib.hid (And.intro r6 (And.intro L6 (And.intro S6 (And.intro G1 (And.intro G2 l6)))))
                clear r6 L6 S6 G1 G2 l6
                have L7 := Like.refl mid b es3
                have S7 : Srt es3 mid b := fun p q c1 c2 c3 => by first | exact H6.out.2.2.2.2.1 p q (by omega) c2 c3 | exact H6.out.2.2.2.1 p q c1 c2 (by omega)
                have r7 := H6.out.1
                have HC7 := HC6
                go_wp2_with fail
                go_end0
                exact ⟨rfl, _, r7, ((HRL.out.more hct.out.s1 hct.out.e2).trans (H6.out.2.1.more (Nat.le_refl _) (by omega))).trans (L7.more (by omega) (Nat.le_refl _)), fin.out _ _ H6.out.2.1 H6.out.2.2.1 L7 S7, HC7.out⟩
          · have hsm : s = mid := by have := hct.out.mid; have := hct.out.e1; omega
            have hem : e = m := by have := hct.out.e1; omega
            have has : a < s := by omega
            have hme : mid < e := by omega
            have heb : e < b := by omega
            have t1 : decide ((m : Int) < (e : Int)) = false := by simp; omega
            have t1n : decide ((m) < (e)) = false := by simp; omega
            have t2 : decide ((s : Int) < (mid : Int)) = false := by simp; omega
            have t2n : decide ((s) < (mid)) = false := by simp; omega
            have HSM := Lib.hid hsm
            have HEM := Lib.hid hem
            have HV := Lib.hid v2
            clear hsm hem v2
            have HCT := hct.out
            have hrl := rot_like (es := es) (s := s) (m := m) (e := e) HCT.s2 HCT.e1 (by have := HCT.e2; have := HNN.out; omega)
            have hl2 := hrl.len
            rw [HNN.out] at hl2
            have hf := cut_first HCT hA hB (by rw [HNN.out]; exact hb)
            have hg := cut_second HCT hA hB (by rw [HNN.out]; exact hb)
            have HF := Lib.hid hf
            have HG := Lib.hid hg
            have HRL := Lib.hid hrl
            have HL2 := Lib.hid hl2
            clear hf hg hrl hl2 HCT
            have HR5 : Hid (RowE wr g c (rot es s m e)) := by show RowE _ _ _ _; rw [rot_none hct.out.s2 hct.out.e1 (by have := hct.out.e2; have := HNN.out; omega) (by have := HSM.out; have := HEM.out; have := HV.out; omega)]; exact HR.out
            have HC5 := HC
            obtain ⟨w5, rfl⟩ : ∃ x, x = wr := ⟨_, rfl⟩
            generalize rot es s m e = es2 at *
            have L6 := Like.refl a mid es2
            have S6 : Srt es2 a mid := fun p q c1 c2 c3 => by first | exact HF.out.2 p q (by have := HSM.out; have := HEM.out; have := HV.out; omega) c2 c3 | exact HF.out.1 p q c1 c2 (by have := HSM.out; have := HEM.out; have := HV.out; omega)
            have r6 := HR5.out
            have HC6 := HC5
            obtain ⟨es3, hes3⟩ : ∃ x, x = es2 := ⟨_, rfl⟩
            rw [← hes3] at r6 S6
            have L6 : Like a mid es2 es3 := by rw [hes3]; exact L6
            clear hes3
            have l6 := L6.len
            rw [HL2.out] at l6
            have G1 := HG.out.1.like L6 (.inr (Nat.le_refl _))
            have G2 := HG.out.2.like L6 (.inr (by have := hct.out.e3; omega))
            have H6 := Lib.hid (And.intro r6 (And.intro L6 (And.intro S6 (And.intro G1 (And.intro G2 l6)))))
            clear r6 L6 S6 G1 G2 l6
            go_wp2_with fail
            have x1 : mid < e := (by have := HSM.out; have := HEM.out; have := HV.out; omega)
            have x2 : e < b := (by have := HSM.out; have := HEM.out; have := HV.out; omega)
            have x3 : b - mid ≤ N := (by have := HSM.out; have := HEM.out; have := HV.out; omega)
            have X := hcall es3 mid e b _ H6.out.1 H6.out.2.2.2.2.2 x1 x2 hb x3 H6.out.2.2.2.1 H6.out.2.2.2.2.1
            refine X.mono ?_
            rintro _ w7 ⟨rfl, es4, r7, L7, S7, C7⟩
            have HC7 := Lib.hid (HC6.out.trans C7)
            go_wp2_with fail
            go_end0
            exact ⟨rfl, _, r7, ((HRL.out.more hct.out.s1 hct.out.e2).trans (H6.out.2.1.more (Nat.le_refl _) (by have := HSM.out; have := HEM.out; have := HV.out; omega))).trans (L7.more (by have := HSM.out; have := HEM.out; have := HV.out; omega) (Nat.le_refl _)), fin.out _ _ H6.out.2.1 H6.out.2.2.1 L7 S7, HC7.out⟩
        · have hsm : s = m := by have := hct.out.s2; omega
          have hem : e = mid := by have := hct.out.mid; have := hct.out.e1; omega
          have has : a < s := by omega
          have t1 : decide ((s : Int) < (m : Int)) = false := by simp; omega
          have t1n : decide ((s) < (m)) = false := by simp; omega
          have t2 : decide ((mid : Int) < (e : Int)) = false := by simp; omega
          have t2n : decide ((mid) < (e)) = false := by simp; omega
          have HSM := Lib.hid hsm
          have HEM := Lib.hid hem
          have HV := Lib.hid v1
          by_cases v3 : s < mid
          · clear hsm hem v1
            have HCT := hct.out
            have hrl := rot_like (es := es) (s := s) (m := m) (e := e) HCT.s2 HCT.e1 (by have := HCT.e2; have := HNN.out; omega)
            have hl2 := hrl.len
            rw [HNN.out] at hl2
            have hf := cut_first HCT hA hB (by rw [HNN.out]; exact hb)
            have hg := cut_second HCT hA hB (by rw [HNN.out]; exact hb)
            have HF := Lib.hid hf
            have HG := Lib.hid hg
            have HRL := Lib.hid hrl
            have HL2 := Lib.hid hl2
            clear hf hg hrl hl2 HCT
            have HR5 : Hid (RowE wr g c (rot es s m e)) := by show RowE _ _ _ _; rw [rot_none hct.out.s2 hct.out.e1 (by have := hct.out.e2; have := HNN.out; omega) (by have := HSM.out; have := HEM.out; have := HV.out; omega)]; exact HR.out
            have HC5 := HC
            obtain ⟨w5, rfl⟩ : ∃ x, x = wr := ⟨_, rfl⟩
            generalize rot es s m e = es2 at *
            go_wp2_with fail
            refine (hcall es2 a s mid _ HR5.out HL2.out (by have := HSM.out; have := HEM.out; have := HV.out; omega) (by have := HSM.out; have := HEM.out; have := HV.out; omega) (by have := HSM.out; have := HEM.out; have := HV.out; omega) (by have := HSM.out; have := HEM.out; have := HV.out; omega) HF.out.1 HF.out.2).mono ?_
            rintro _ w6 ⟨rfl, es3, r6, L6, S6, C6⟩
            have HC6 := Lib.hid (HC5.out.trans C6)
            have l6 := L6.len
            rw [HL2.out] at l6
            have G1 := HG.out.1.like L6 (.inr (Nat.le_refl _))
            have G2 := HG.out.2.like L6 (.inr (by have := hct.out.e3; omega))
            have H6 := Lib.hid (And.intro r6 (And.intro L6 (And.intro S6 (And.intro G1 (And.intro G2 l6)))))
            clear r6 L6 S6 G1 G2 l6
            have L7 := Like.refl mid b es3
            have S7 : Srt es3 mid b := fun p q c1 c2 c3 => by first | exact H6.out.2.2.2.2.1 p q (by have := HSM.out; have := HEM.out; have := HV.out; omega) c2 c3 | exact H6.out.2.2.2.1 p q c1 c2 (by have := HSM.out; have := HEM.out; have := HV.out; omega)
            have r7 := H6.out.1
            have HC7 := HC6
            go_wp2_with fail
            go_end0
            exact ⟨rfl, _, r7, ((HRL.out.more hct.out.s1 hct.out.e2).trans (H6.out.2.1.more (Nat.le_refl _) (by have := HSM.out; have := HEM.out; have := HV.out; omega))).trans (L7.more (by have := HSM.out; have := HEM.out; have := HV.out; omega) (Nat.le_refl _)), fin.out _ _ H6.out.2.1 H6.out.2.2.1 L7 S7, HC7.out⟩
          · have t3 : decide ((s : Int) < (mid : Int)) = false := by simp; omega
            have t3n : decide ((s) < (mid)) = false := by simp; omega
            have HV3 := Lib.hid v3
            clear hsm hem v1 v3
            have HCT := hct.out
            have hrl := rot_like (es := es) (s := s) (m := m) (e := e) HCT.s2 HCT.e1 (by have := HCT.e2; have := HNN.out; omega)
            have hl2 := hrl.len
            rw [HNN.out] at hl2
            have hf := cut_first HCT hA hB (by rw [HNN.out]; exact hb)
            have hg := cut_second HCT hA hB (by rw [HNN.out]; exact hb)
            have HF := Lib.hid hf
            have HG := Lib.hid hg
            have HRL := Lib.hid hrl
            have HL2 := Lib.hid hl2
            clear hf hg hrl hl2 HCT
            have HR5 : Hid (RowE wr g c (rot es s m e)) := by show RowE _ _ _ _; rw [rot_none hct.out.s2 hct.out.e1 (by have := hct.out.e2; have := HNN.out; omega) (by have := HSM.out; have := HEM.out; have := HV.out; have := HV3.out; omega)]; exact HR.out
            have HC5 := HC
            obtain ⟨w5, rfl⟩ : ∃ x, x = wr := ⟨_, rfl⟩
            generalize rot es s m e = es2 at *
            have L6 := Like.refl a mid es2
            have S6 : Srt es2 a mid := fun p q c1 c2 c3 => by first | exact HF.out.2 p q (by have := HSM.out; have := HEM.out; have := HV.out; have := HV3.out; omega) c2 c3 | exact HF.out.1 p q c1 c2 (by have := HSM.out; have := HEM.out; have := HV.out; have := HV3.out; omega)
            have r6 := HR5.out
            have HC6 := HC5
            obtain ⟨es3, hes3⟩ : ∃ x, x = es2 := ⟨_, rfl⟩
            rw [← hes3] at r6 S6
            have L6 : Like a mid es2 es3 := by rw [hes3]; exact L6
            clear hes3
            have l6 := L6.len
            rw [HL2.out] at l6
            have G1 := HG.out.1.like L6 (.inr (Nat.le_refl _))
            have G2 := HG.out.2.like L6 (.inr (by have := hct.out.e3; omega))
            have H6 := Lib.hid (And.intro r6 (And.intro L6 (And.intro S6 (And.intro G1 (And.intro G2 l6)))))
            clear r6 L6 S6 G1 G2 l6
            have L7 := Like.refl mid b es3
            have S7 : Srt es3 mid b := fun p q c1 c2 c3 => by first | exact H6.out.2.2.2.2.1 p q (by have := HSM.out; have := HEM.out; have := HV.out; have := HV3.out; omega) c2 c3 | exact H6.out.2.2.2.1 p q c1 c2 (by have := HSM.out; have := HEM.out; have := HV.out; have := HV3.out; omega)
            have r7 := H6.out.1
            have HC7 := HC6
            go_wp2_with fail
            go_end0
            exact ⟨rfl, _, r7, ((HRL.out.more hct.out.s1 hct.out.e2).trans (H6.out.2.1.more (Nat.le_refl _) (by have := HSM.out; have := HEM.out; have := HV.out; have := HV3.out; omega))).trans (L7.more (by have := HSM.out; have := HEM.out; have := HV.out; have := HV3.out; omega) (Nat.le_refl _)), fin.out _ _ H6.out.2.1 H6.out.2.2.1 L7 S7, HC7.out⟩
end Go.Proofs.Ytklmckbpbloonaa
