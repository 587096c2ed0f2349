/- Parts of the proof: SortE5. -/
import Derived.Test.YtklmckbpbloonaaBC17
import Derived.Test.YtklmckbpbloonaaBC13
namespace Go.Proofs.Ytklmckbpbloonaa
open Go.RowKit

set_option maxRecDepth 100000 in
set_option maxHeartbeats 2000000 in
theorem symMerge_two (g c a m b : Nat) (es : List Edg) (w : World) (h : RowE w g c es) (ham : a + 1 < m) (hmb : b = m + 1) (hb : b ≤ es.length) (hsz : es.length ≤ 1000000) (hA : Srt es a m) :
    Calls Try.prog 141 #[.slice (some ⟨g, 0, none⟩) es.length c, .int .i64 a, .int .i64 m, .int .i64 b, .func (.func 82) #[] #[]] w fun e w' => e = .returned (.tuple #[]) ∧ ∃ es', RowE w' g c es' ∧ Like a b es es' ∧ Srt es' a b ∧ Chg [g] w w' := by
  obtain ⟨hc1, hc2⟩ := h.cap
  have HW := Lib.hid h
  generalize hnn : es.length = nn at *
  have HMB := Lib.hid hmb
  obtain ⟨d, hd⟩ : ∃ d, d = m - a := ⟨_, rfl⟩
  have p1 : IntKind.i64.wrap ((m : Int) - (a : Int)) = (d : Int) := by rw [IntWalk.i64_in _ (by omega)]; omega
  have p2 : IntKind.i64.wrap ((b : Int) - (m : Int)) = 1 := by rw [IntWalk.i64_in _ (by omega)]; omega
  have p3 : ((d : Int) == 1) = false := by simp; omega
  have HNN := Lib.hid hnn
  have hmb2 : m < b := by omega
  clear h hmb hnn hd
  go_enter Try.func141, Try.ntmps141
  go_wp2_with fail
  go_loopw [14, 15, 16] (fun s14 s15 _ wr => ∃ (i j : Nat), s14 = .int .i64 i ∧ s15 = .int .i64 j ∧ a ≤ i ∧ i ≤ j ∧ j ≤ m ∧ RowE wr g c es ∧ Hid ((∀ p, a ≤ p → p < i → K es p ≤ K es m) ∧ (∀ p, j ≤ p → p < m → K es m < K es p)) ∧ Chg [g] w wr) (fun s14 s15 _ _ => (intOf s15).toNat - (intOf s14).toNat)
  case atStart => exact ⟨a, m, rfl, rfl, Nat.le_refl _, by omega, Nat.le_refl _, HW.out, ⟨fun p h1 h2 => by omega, fun p h1 h2 => by omega⟩, Chg.refl _ _⟩
  case round =>
    clear HW
    obtain ⟨i, j, rfl, rfl, hi1, hi2, hi3, hr, hL, hC⟩ := hrel
    have HR := Lib.hid hr
    have HC := Lib.hid hC
    clear hr hC
    by_cases hlt : i < j
    · obtain ⟨h, hh⟩ : ∃ h, h = (i + j) / 2 := ⟨_, rfl⟩
      have hhl : h < es.length := by have := HNN.out; omega
      have hal : m < es.length := by have := HNN.out; omega
      have hx : es[m]? = some es[m] := List.getElem?_eq_getElem hal
      have hy : es[h]? = some es[h] := List.getElem?_eq_getElem hhl
      generalize es[m] = x at hx
      generalize es[h] = y at hy
      have HKX := Lib.hid (K_at hx)
      have HKY := Lib.hid (K_at hy)
      have q1 : IntKind.i64.wrap ((i : Int) + (j : Int)) = (i : Int) + (j : Int) := IntWalk.i64_in _ (by omega)
      have q2 : h < nn := by omega
      have q3 : m < nn := by omega
      have q0 : ((i : Int) + (j : Int)) / 2 = (h : Int) := by omega
      have HH := Lib.hid hh
      have q4 : IntKind.i64.wrap ((h : Int) + 1) = ((h + 1 : Nat) : Int) := by rw [IntWalk.i64_in _ (by omega)]; omega
      clear hh
      by_cases hk : x.1 < y.1
      · have hdec2 : cmpN x.1 y.1 < 0 := by have := cmpN_lt x.1 y.1; simpa [hk] using this
        go_wp2_with fail
        refine wp_region_held_drew (S := fun W => RowE W g c es) (by kernel_rfl) HR.out.drew' (fun hHeld => ?_)
        refine held_take 0 92 (.func (.func 82) #[] #[]) (by simp only [List.getElem?_toArray, List.getElem?_cons_zero]; rfl) rfl rfl (by kernel_rfl) (by kernel_rfl) (by kernel_rfl) (fun _ _ _ _ h => h) (by intro W hW; go_simp) hHeld ?_
        simp only [List.setIfInBounds_toArray, List.set_cons_zero, List.set_cons_succ]
        refine held_take 1 93 (.slice (some ⟨g, 0, none⟩) nn c) (by simp only [List.getElem?_toArray, List.getElem?_cons_succ, List.getElem?_cons_zero]; rfl) rfl rfl (by kernel_rfl) (by kernel_rfl) (by kernel_rfl) (fun _ _ _ _ h => h) (by intro W hW; go_simp) hHeld ?_
        simp only [List.setIfInBounds_toArray, List.set_cons_zero, List.set_cons_succ]
        refine held_take 2 94 (.int .i64 m) (by simp only [List.getElem?_toArray, List.getElem?_cons_succ, List.getElem?_cons_zero]; rfl) rfl rfl (by kernel_rfl) (by kernel_rfl) (by kernel_rfl) (fun _ _ _ _ h => h) (by intro W hW; go_simp) hHeld ?_
        simp only [List.setIfInBounds_toArray, List.set_cons_zero, List.set_cons_succ]
        refine held_take 3 95 (.pointer (some ⟨g, (m * 3), none⟩)) (by simp only [List.getElem?_toArray, List.getElem?_cons_succ, List.getElem?_cons_zero]; rfl) rfl rfl (by kernel_rfl) (by kernel_rfl) (by kernel_rfl) (fun _ _ _ _ h => h) (by intro W hW; go_simp) hHeld ?_
        simp only [List.setIfInBounds_toArray, List.set_cons_zero, List.set_cons_succ]
        refine held_take 4 96 (edV x) (by simp only [List.getElem?_toArray, List.getElem?_cons_succ, List.getElem?_cons_zero]; rfl) rfl rfl (by kernel_rfl) (by kernel_rfl) (by kernel_rfl) (fun _ _ _ _ h => h) (fun W hW => exec_loadE rfl rfl hW hx) hHeld ?_
        simp only [List.setIfInBounds_toArray, List.set_cons_zero, List.set_cons_succ]
        refine held_take 5 97 (.slice (some ⟨g, 0, none⟩) nn c) (by simp only [List.getElem?_toArray, List.getElem?_cons_succ, List.getElem?_cons_zero]; rfl) rfl rfl (by kernel_rfl) (by kernel_rfl) (by kernel_rfl) (fun _ _ _ _ h => h) (by intro W hW; go_simp) hHeld ?_
        simp only [List.setIfInBounds_toArray, List.set_cons_zero, List.set_cons_succ]
        refine held_take 6 98 (.int .i64 h) (by simp only [List.getElem?_toArray, List.getElem?_cons_succ, List.getElem?_cons_zero]; rfl) rfl rfl (by kernel_rfl) (by kernel_rfl) (by kernel_rfl) (fun _ _ _ _ h => h) (by intro W hW; go_simp) hHeld ?_
        simp only [List.setIfInBounds_toArray, List.set_cons_zero, List.set_cons_succ]
        refine held_take 7 99 (.pointer (some ⟨g, (h * 3), none⟩)) (by simp only [List.getElem?_toArray, List.getElem?_cons_succ, List.getElem?_cons_zero]; rfl) rfl rfl (by kernel_rfl) (by kernel_rfl) (by kernel_rfl) (fun _ _ _ _ h => h) (by intro W hW; go_simp) hHeld ?_
        simp only [List.setIfInBounds_toArray, List.set_cons_zero, List.set_cons_succ]
        refine held_take 8 100 (edV y) (by simp only [List.getElem?_toArray, List.getElem?_cons_succ, List.getElem?_cons_zero]; rfl) rfl rfl (by kernel_rfl) (by kernel_rfl) (by kernel_rfl) (fun _ _ _ _ h => h) (fun W hW => exec_loadE rfl rfl hW hy) hHeld ?_
        simp only [List.setIfInBounds_toArray, List.set_cons_zero, List.set_cons_succ]
        refine held_call 9 101 82 #[edV x, edV y] (by simp only [List.getElem?_toArray, List.getElem?_cons_succ, List.getElem?_cons_zero]; rfl) rfl rfl (by kernel_rfl) (by intro W; go_simp) ?_
        refine (byId x y _).mono ?_
        rintro e w3 ⟨rfl, B3⟩
        have hHeld := hHeld.on B3
        have C3 : Chg [g] wr w3 := (Chg.refl [g] wr).drew.trans (Chg.of_below B3 [g])
        refine ⟨_, rfl, hHeld, ?_⟩
        simp only [List.setIfInBounds_toArray, List.set_cons_zero, List.set_cons_succ]
        refine held_take 10 102 (.bool true) (by simp only [List.getElem?_toArray, List.getElem?_cons_succ, List.getElem?_cons_zero]; rfl) rfl rfl (by kernel_rfl) (by kernel_rfl) (by kernel_rfl) (fun _ _ _ _ h => h) (by intro W hW; go_simp) hHeld ?_
        simp only [List.setIfInBounds_toArray, List.set_cons_zero, List.set_cons_succ]
        refine held_take 11 103 (.bool false) (by simp only [List.getElem?_toArray, List.getElem?_cons_succ, List.getElem?_cons_zero]; rfl) rfl rfl (by kernel_rfl) (by kernel_rfl) (by kernel_rfl) (fun _ _ _ _ h => h) (by intro W hW; go_simp) hHeld ?_
        simp only [List.setIfInBounds_toArray, List.set_cons_zero, List.set_cons_succ]
        refine wpAnyH_done (by kernel_rfl) ?_ _
        go_wp2_with fail
        go_roundw
        case rel =>
          have hh := HH.out
          refine ⟨i, h, rfl, rfl, by omega, by omega, by omega, hHeld, ⟨hL.out.1, fun p c1 c2 => ?_⟩, HC.out.trans C3⟩
          rw [HKX.out]
          by_cases e : p = h
          · subst e; rw [HKY.out]; exact hk
          · have := hA h p (by omega) (by omega) c2
            rw [HKY.out] at this; omega
        case measure => have := HH.out; simp [intOf]; omega
      · have hdec2 : ¬ cmpN x.1 y.1 < 0 := by have := cmpN_lt x.1 y.1; simpa [hk] using this
        go_wp2_with fail
        refine wp_region_held_drew (S := fun W => RowE W g c es) (by kernel_rfl) HR.out.drew' (fun hHeld => ?_)
        refine held_take 0 92 (.func (.func 82) #[] #[]) (by simp only [List.getElem?_toArray, List.getElem?_cons_zero]; rfl) rfl rfl (by kernel_rfl) (by kernel_rfl) (by kernel_rfl) (fun _ _ _ _ h => h) (by intro W hW; go_simp) hHeld ?_
        simp only [List.setIfInBounds_toArray, List.set_cons_zero, List.set_cons_succ]
        refine held_take 1 93 (.slice (some ⟨g, 0, none⟩) nn c) (by simp only [List.getElem?_toArray, List.getElem?_cons_succ, List.getElem?_cons_zero]; rfl) rfl rfl (by kernel_rfl) (by kernel_rfl) (by kernel_rfl) (fun _ _ _ _ h => h) (by intro W hW; go_simp) hHeld ?_
        simp only [List.setIfInBounds_toArray, List.set_cons_zero, List.set_cons_succ]
        refine held_take 2 94 (.int .i64 m) (by simp only [List.getElem?_toArray, List.getElem?_cons_succ, List.getElem?_cons_zero]; rfl) rfl rfl (by kernel_rfl) (by kernel_rfl) (by kernel_rfl) (fun _ _ _ _ h => h) (by intro W hW; go_simp) hHeld ?_
        simp only [List.setIfInBounds_toArray, List.set_cons_zero, List.set_cons_succ]
        refine held_take 3 95 (.pointer (some ⟨g, (m * 3), none⟩)) (by simp only [List.getElem?_toArray, List.getElem?_cons_succ, List.getElem?_cons_zero]; rfl) rfl rfl (by kernel_rfl) (by kernel_rfl) (by kernel_rfl) (fun _ _ _ _ h => h) (by intro W hW; go_simp) hHeld ?_
        simp only [List.setIfInBounds_toArray, List.set_cons_zero, List.set_cons_succ]
        refine held_take 4 96 (edV x) (by simp only [List.getElem?_toArray, List.getElem?_cons_succ, List.getElem?_cons_zero]; rfl) rfl rfl (by kernel_rfl) (by kernel_rfl) (by kernel_rfl) (fun _ _ _ _ h => h) (fun W hW => exec_loadE rfl rfl hW hx) hHeld ?_
        simp only [List.setIfInBounds_toArray, List.set_cons_zero, List.set_cons_succ]
        refine held_take 5 97 (.slice (some ⟨g, 0, none⟩) nn c) (by simp only [List.getElem?_toArray, List.getElem?_cons_succ, List.getElem?_cons_zero]; rfl) rfl rfl (by kernel_rfl) (by kernel_rfl) (by kernel_rfl) (fun _ _ _ _ h => h) (by intro W hW; go_simp) hHeld ?_
        simp only [List.setIfInBounds_toArray, List.set_cons_zero, List.set_cons_succ]
        refine held_take 6 98 (.int .i64 h) (by simp only [List.getElem?_toArray, List.getElem?_cons_succ, List.getElem?_cons_zero]; rfl) rfl rfl (by kernel_rfl) (by kernel_rfl) (by kernel_rfl) (fun _ _ _ _ h => h) (by intro W hW; go_simp) hHeld ?_
        simp only [List.setIfInBounds_toArray, List.set_cons_zero, List.set_cons_succ]
        refine held_take 7 99 (.pointer (some ⟨g, (h * 3), none⟩)) (by simp only [List.getElem?_toArray, List.getElem?_cons_succ, List.getElem?_cons_zero]; rfl) rfl rfl (by kernel_rfl) (by kernel_rfl) (by kernel_rfl) (fun _ _ _ _ h => h) (by intro W hW; go_simp) hHeld ?_
        simp only [List.setIfInBounds_toArray, List.set_cons_zero, List.set_cons_succ]
        refine held_take 8 100 (edV y) (by simp only [List.getElem?_toArray, List.getElem?_cons_succ, List.getElem?_cons_zero]; rfl) rfl rfl (by kernel_rfl) (by kernel_rfl) (by kernel_rfl) (fun _ _ _ _ h => h) (fun W hW => exec_loadE rfl rfl hW hy) hHeld ?_
        simp only [List.setIfInBounds_toArray, List.set_cons_zero, List.set_cons_succ]
        refine held_call 9 101 82 #[edV x, edV y] (by simp only [List.getElem?_toArray, List.getElem?_cons_succ, List.getElem?_cons_zero]; rfl) rfl rfl (by kernel_rfl) (by intro W; go_simp) ?_
        refine (byId x y _).mono ?_
        rintro e w3 ⟨rfl, B3⟩
        have hHeld := hHeld.on B3
        have C3 : Chg [g] wr w3 := (Chg.refl [g] wr).drew.trans (Chg.of_below B3 [g])
        refine ⟨_, rfl, hHeld, ?_⟩
        simp only [List.setIfInBounds_toArray, List.set_cons_zero, List.set_cons_succ]
        refine held_take 10 102 (.bool false) (by simp only [List.getElem?_toArray, List.getElem?_cons_succ, List.getElem?_cons_zero]; rfl) rfl rfl (by kernel_rfl) (by kernel_rfl) (by kernel_rfl) (fun _ _ _ _ h => h) (by intro W hW; go_simp) hHeld ?_
        simp only [List.setIfInBounds_toArray, List.set_cons_zero, List.set_cons_succ]
        refine held_take 11 103 (.bool true) (by simp only [List.getElem?_toArray, List.getElem?_cons_succ, List.getElem?_cons_zero]; rfl) rfl rfl (by kernel_rfl) (by kernel_rfl) (by kernel_rfl) (fun _ _ _ _ h => h) (by intro W hW; go_simp) hHeld ?_
        simp only [List.setIfInBounds_toArray, List.set_cons_zero, List.set_cons_succ]
        refine wpAnyH_done (by kernel_rfl) ?_ _
        go_wp2_with fail
        go_roundw
        case rel =>
          have hh := HH.out
          refine ⟨h + 1, j, by go_num, rfl, by omega, by omega, by omega, hHeld, ⟨fun p c1 c2 => ?_, hL.out.2⟩, HC.out.trans C3⟩
          rw [HKX.out]
          by_cases e : p = h
          · subst e; rw [HKY.out]; omega
          · have := hA p h c1 (by omega) (by omega)
            rw [HKY.out] at this; omega
        case measure => have := HH.out; simp [intOf]; omega
    · obtain rfl : i = j := by omega
      have hd : decide ((i : Int) < (i : Int)) = false := by simp
      obtain ⟨wq, rfl⟩ : ∃ x, x = wr := ⟨_, rfl⟩
      go_wp2_with fail
      go_loopw [17] (fun s17 wr => ∃ (k : Nat) (cur : List Edg), s17 = .int .i64 k ∧ i ≤ k ∧ k ≤ m ∧ RowE wr g c cur ∧ Hid (Like a b es cur ∧ SrtX cur a b k ∧ K cur k = K es m ∧ (∀ p, p < k → K cur p = K es p)) ∧ Chg [g] w wr) (fun s17 _ => (intOf s17).toNat)
      case atStart =>
        have hmb := HMB.out
        exact ⟨m, es, rfl, hi3, Nat.le_refl _, HR.out, ⟨Like.refl _ _ _, by rw [hmb]; exact hA.x, rfl, fun _ _ => rfl⟩, HC.out⟩
      case round =>
        clear HR HC
        obtain ⟨k, cur, rfl, hk1, hk2, hr, hM, hC⟩ := hrel
        have HR := Lib.hid hr
        have HC := Lib.hid hC
        have hcl := hM.out.1.len
        rw [HNN.out] at hcl
        clear hr hC
        by_cases hlt2 : i < k
        · obtain ⟨km, hkm⟩ : ∃ km, k = km + 1 := ⟨k - 1, by omega⟩
          have hjl : k < cur.length := by omega
          have hjml : km < cur.length := by omega
          have hx : cur[k]? = some cur[k] := List.getElem?_eq_getElem hjl
          have hy : cur[km]? = some cur[km] := List.getElem?_eq_getElem hjml
          generalize cur[k] = x at hx
          generalize cur[km] = y at hy
          have hox := HR.out.okAt hx
          have hoy := HR.out.okAt hy
          have q5 : IntKind.i64.wrap ((k : Int) - 1) = (km : Int) := by rw [IntWalk.i64_in _ (by omega)]; omega
          have q2 : k < nn := by omega
          have q3 : km < nn := by omega
          have HKM := Lib.hid hkm
          have HCL := Lib.hid hcl
          have hsw := swp_eq hx hy
          have HLT : Hid (K cur k < K cur km) := by
            show _ < _
            rw [hM.out.2.2.1, hM.out.2.2.2 km (by omega)]
            exact hL.out.2 km (by omega) (by omega)
          clear hkm hcl
          go_wp2_with fail
          refine wp_region_held_drew (S := fun _ => True) (by kernel_rfl) trivial (fun hHeld => ?_)
          refine held_take 0 113 (.slice (some ⟨g, 0, none⟩) nn c) (by simp only [List.getElem?_toArray, List.getElem?_cons_zero]; rfl) rfl rfl (by kernel_rfl) (by kernel_rfl) (by kernel_rfl) (fun _ _ _ _ h => h) (by intro W hW; go_simp) hHeld ?_
          simp only [List.setIfInBounds_toArray, List.set_cons_zero, List.set_cons_succ]
          refine held_take 1 114 (.int .i64 k) (by simp only [List.getElem?_toArray, List.getElem?_cons_succ, List.getElem?_cons_zero]; rfl) rfl rfl (by kernel_rfl) (by kernel_rfl) (by kernel_rfl) (fun _ _ _ _ h => h) (by intro W hW; go_simp) hHeld ?_
          simp only [List.setIfInBounds_toArray, List.set_cons_zero, List.set_cons_succ]
          refine held_take 2 115 (.slice (some ⟨g, 0, none⟩) nn c) (by simp only [List.getElem?_toArray, List.getElem?_cons_succ, List.getElem?_cons_zero]; rfl) rfl rfl (by kernel_rfl) (by kernel_rfl) (by kernel_rfl) (fun _ _ _ _ h => h) (by intro W hW; go_simp) hHeld ?_
          simp only [List.setIfInBounds_toArray, List.set_cons_zero, List.set_cons_succ]
          refine held_take 3 116 (.int .i64 k) (by simp only [List.getElem?_toArray, List.getElem?_cons_succ, List.getElem?_cons_zero]; rfl) rfl rfl (by kernel_rfl) (by kernel_rfl) (by kernel_rfl) (fun _ _ _ _ h => h) (by intro W hW; go_simp) hHeld ?_
          simp only [List.setIfInBounds_toArray, List.set_cons_zero, List.set_cons_succ]
          refine held_take 4 117 (.int .i64 km) (by simp only [List.getElem?_toArray, List.getElem?_cons_succ, List.getElem?_cons_zero]; rfl) rfl rfl (by kernel_rfl) (by kernel_rfl) (by kernel_rfl) (fun _ _ _ _ h => h) (by intro W hW; go_simp) hHeld ?_
          simp only [List.setIfInBounds_toArray, List.set_cons_zero, List.set_cons_succ]
          refine held_take 5 118 (.slice (some ⟨g, 0, none⟩) nn c) (by simp only [List.getElem?_toArray, List.getElem?_cons_succ, List.getElem?_cons_zero]; rfl) rfl rfl (by kernel_rfl) (by kernel_rfl) (by kernel_rfl) (fun _ _ _ _ h => h) (by intro W hW; go_simp) hHeld ?_
          simp only [List.setIfInBounds_toArray, List.set_cons_zero, List.set_cons_succ]
          refine held_take 6 119 (.int .i64 k) (by simp only [List.getElem?_toArray, List.getElem?_cons_succ, List.getElem?_cons_zero]; rfl) rfl rfl (by kernel_rfl) (by kernel_rfl) (by kernel_rfl) (fun _ _ _ _ h => h) (by intro W hW; go_simp) hHeld ?_
          simp only [List.setIfInBounds_toArray, List.set_cons_zero, List.set_cons_succ]
          refine held_take 7 120 (.int .i64 km) (by simp only [List.getElem?_toArray, List.getElem?_cons_succ, List.getElem?_cons_zero]; rfl) rfl rfl (by kernel_rfl) (by kernel_rfl) (by kernel_rfl) (fun _ _ _ _ h => h) (by intro W hW; go_simp) hHeld ?_
          simp only [List.setIfInBounds_toArray, List.set_cons_zero, List.set_cons_succ]
          refine held_take 8 121 (.pointer (some ⟨g, (km * 3), none⟩)) (by simp only [List.getElem?_toArray, List.getElem?_cons_succ, List.getElem?_cons_zero]; rfl) rfl rfl (by kernel_rfl) (by kernel_rfl) (by kernel_rfl) (fun _ _ _ _ h => h) (by intro W hW; go_simp) hHeld ?_
          simp only [List.setIfInBounds_toArray, List.set_cons_zero, List.set_cons_succ]
          refine held_take 10 123 (.slice (some ⟨g, 0, none⟩) nn c) (by simp only [List.getElem?_toArray, List.getElem?_cons_succ, List.getElem?_cons_zero]; rfl) rfl rfl (by kernel_rfl) (by kernel_rfl) (by kernel_rfl) (fun _ _ _ _ h => h) (by intro W hW; go_simp) hHeld ?_
          simp only [List.setIfInBounds_toArray, List.set_cons_zero, List.set_cons_succ]
          refine held_take 11 124 (.int .i64 k) (by simp only [List.getElem?_toArray, List.getElem?_cons_succ, List.getElem?_cons_zero]; rfl) rfl rfl (by kernel_rfl) (by kernel_rfl) (by kernel_rfl) (fun _ _ _ _ h => h) (by intro W hW; go_simp) hHeld ?_
          simp only [List.setIfInBounds_toArray, List.set_cons_zero, List.set_cons_succ]
          refine held_take 12 125 (.pointer (some ⟨g, (k * 3), none⟩)) (by simp only [List.getElem?_toArray, List.getElem?_cons_succ, List.getElem?_cons_zero]; rfl) rfl rfl (by kernel_rfl) (by kernel_rfl) (by kernel_rfl) (fun _ _ _ _ h => h) (by intro W hW; go_simp) hHeld ?_
          simp only [List.setIfInBounds_toArray, List.set_cons_zero, List.set_cons_succ]
          refine held_two 9 13 122 126 (edV y) (edV x) (by simp only [List.getElem?_toArray, List.getElem?_cons_succ, List.getElem?_cons_zero]; rfl) (by simp only [List.getElem?_toArray, List.getElem?_cons_succ, List.getElem?_cons_zero]; rfl) rfl rfl (by decide) (by decide) rfl rfl rfl rfl (by kernel_rfl) (by kernel_rfl) (by kernel_rfl) (exec_loadE rfl rfl HR.out.drew' hy) (exec_loadE rfl rfl HR.out.drew' hx) (exec_loadE rfl rfl HR.out.drew' hy) (exec_loadE rfl rfl HR.out.drew' hx) trivial ?_
          simp only [List.setIfInBounds_toArray, List.set_cons_zero, List.set_cons_succ]
          refine held_take 14 127 (.pointer (some ⟨g, (k * 3), none⟩)) (by simp only [List.getElem?_toArray, List.getElem?_cons_succ, List.getElem?_cons_zero]; rfl) rfl rfl (by kernel_rfl) (by kernel_rfl) (by kernel_rfl) (fun _ _ _ _ h => h) (by intro W hW; go_simp) hHeld ?_
          simp only [List.setIfInBounds_toArray, List.set_cons_zero, List.set_cons_succ]
          refine held_storeE 15 (by simp only [List.getElem?_toArray, List.getElem?_cons_succ, List.getElem?_cons_zero]; rfl) rfl rfl (by kernel_rfl) (.tmp 127) (.tmp 122) rfl g c (k) _ y rfl rfl HR.out.drew' hjl hoy ?_
          intro w1 r1 C1 z1
          refine ⟨trivial, ?_⟩
          refine held_take 16 128 (.pointer (some ⟨g, (km * 3), none⟩)) (by simp only [List.getElem?_toArray, List.getElem?_cons_succ, List.getElem?_cons_zero]; rfl) rfl rfl (by kernel_rfl) (by kernel_rfl) (by kernel_rfl) (fun _ _ _ _ h => h) (by intro W hW; go_simp) hHeld ?_
          simp only [List.setIfInBounds_toArray, List.set_cons_zero, List.set_cons_succ]
          refine held_storeE 17 (by simp only [List.getElem?_toArray, List.getElem?_cons_succ, List.getElem?_cons_zero]; rfl) rfl rfl (by kernel_rfl) (.tmp 128) (.tmp 126) rfl g c (km) _ x rfl rfl r1 (by rw [List.length_set]; exact hjml) hox ?_
          intro w2 r2 C2 z2
          refine ⟨trivial, ?_⟩
          refine wpAnyH_done (by kernel_rfl) ?_ _
          go_wp2
          go_roundw
          case rel =>
            have hkm := HKM.out
            have hcl := HCL.out
            have e : km = k - 1 := by omega
            obtain ⟨m1, m2, m3, m4⟩ := hM.out
            refine ⟨km, swp cur k km, by go_num, by omega, by omega, ?_, ⟨?_, ?_, ?_, ?_⟩, (HC.out.drew.trans C1).trans C2⟩
            · rw [hsw]; exact r2
            · exact m1.swp (by omega) (by omega) (by omega) (by omega) (by have := HNN.out; omega)
            · have hlt3 := HLT.out
              rw [e] at hlt3 ⊢
              exact m2.swp (by omega) (by omega) (by omega) hlt3
            · rw [K_swp (by omega) (by omega), if_pos rfl]; exact m3
            · intro p hp
              rw [K_swp (by omega) (by omega), if_neg (by omega), if_neg (by omega)]; exact m4 p (by omega)
          case measure => have := HKM.out; simp [intOf]; omega
        · obtain rfl : i = k := by omega
          have hd2 : decide ((i : Int) < (i : Int)) = false := by simp
          go_wp2_with fail
          obtain ⟨m1, m2, m3, m4⟩ := hM.out
          refine bodyPost_ret (v := .tuple #[]) (by simp [results, Try.results141]) rfl ?_
          refine ⟨rfl, cur, HR.out, m1, m2.done ?_, HC.out⟩
          by_cases e : i ≤ a
          · exact .inl e
          · exact .inr (by rw [m3, m4 (i - 1) (by omega)]; exact hL.out.1 (i - 1) (by omega) (by omega))
end Go.Proofs.Ytklmckbpbloonaa
