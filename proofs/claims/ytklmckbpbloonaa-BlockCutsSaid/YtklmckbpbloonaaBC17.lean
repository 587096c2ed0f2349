/- Parts of the proof: SortE4. -/
import Derived.Test.YtklmckbpbloonaaBC16
import Derived.Test.YtklmckbpbloonaaBC13
namespace Go.Proofs.Ytklmckbpbloonaa
open Go.RowKit

set_option maxRecDepth 100000 in
set_option maxHeartbeats 2000000 in
theorem symMerge_one (g c a m b : Nat) (es : List Edg) (w : World) (h : RowE w g c es) (ham : m = a + 1) (hmb : m < b) (hb : b ≤ es.length) (hsz : es.length ≤ 1000000) (hR : Srt es m b) :
    Calls Try.prog 141 #[.slice (some ⟨g, 0, none⟩) es.length c, .int .i64 a, .int .i64 m, .int .i64 b, .func (.func 82) #[] #[]] w fun e w' => e = .returned (.tuple #[]) ∧ ∃ es', RowE w' g c es' ∧ Like a b es es' ∧ Srt es' a b ∧ Chg [g] w w' := by
  obtain ⟨hc1, hc2⟩ := h.cap
  have HW := Lib.hid h
  generalize hnn : es.length = nn at *
  have HAM := Lib.hid ham
  have p1 : IntKind.i64.wrap ((m : Int) - (a : Int)) = 1 := by rw [IntWalk.i64_in _ (by omega)]; omega
  have hma : a < m := by omega
  have HNN := Lib.hid hnn
  clear h ham hnn
  go_enter Try.func141, Try.ntmps141
  go_wp2_with fail
  go_loopw [10, 11, 12] (fun s10 s11 _ wr => ∃ (i j : Nat), s10 = .int .i64 i ∧ s11 = .int .i64 j ∧ m ≤ i ∧ i ≤ j ∧ j ≤ b ∧ RowE wr g c es ∧ Hid ((∀ p, m ≤ p → p < i → K es p < K es a) ∧ (∀ p, j ≤ p → p < b → K es a ≤ K es p)) ∧ Chg [g] w wr) (fun s10 s11 _ _ => (intOf s11).toNat - (intOf s10).toNat)
  case atStart => exact ⟨m, b, rfl, rfl, Nat.le_refl _, by omega, Nat.le_refl _, HW.out, ⟨fun p h1 h2 => by omega, fun p h1 h2 => by omega⟩, Chg.refl _ _⟩
  case round =>
    clear HW
    obtain ⟨i, j, rfl, rfl, hi1, hi2, hi3, hr, hL, hC⟩ := hrel
    have HR := Lib.hid hr
    have HC := Lib.hid hC
    clear hr hC
    by_cases hlt : i < j
    · obtain ⟨h, hh⟩ : ∃ h, h = (i + j) / 2 := ⟨_, rfl⟩
      have hhl : h < es.length := by have := HNN.out; omega
      have hal : a < es.length := by have := HNN.out; omega
      have hx : es[h]? = some es[h] := List.getElem?_eq_getElem hhl
      have hy : es[a]? = some es[a] := List.getElem?_eq_getElem hal
      have q0 : ((i : Int) + (j : Int)) / 2 = (h : Int) := by omega
      have HH := Lib.hid hh
      have q4 : IntKind.i64.wrap ((h : Int) + 1) = ((h + 1 : Nat) : Int) := by rw [IntWalk.i64_in _ (by omega)]; omega
      clear hh
      generalize es[h] = x at hx
      generalize es[a] = y at hy
      have HKX := Lib.hid (K_at hx)
      have HKY := Lib.hid (K_at hy)
      have q1 : IntKind.i64.wrap ((i : Int) + (j : Int)) = (i : Int) + (j : Int) := IntWalk.i64_in _ (by omega)
      have q2 : h < nn := by omega
      have q3 : a < nn := by omega
      by_cases hk : x.1 < y.1
      · have hdec2 : cmpN x.1 y.1 < 0 := by have := cmpN_lt x.1 y.1; simpa [hk] using this
        go_wp2_with fail
        refine wp_region_held_drew (S := fun W => RowE W g c es) (by kernel_rfl) HR.out.drew' (fun hHeld => ?_)
        refine held_take 0 40 (.func (.func 82) #[] #[]) (by simp only [List.getElem?_toArray, List.getElem?_cons_zero]; rfl) rfl rfl (by kernel_rfl) (by kernel_rfl) (by kernel_rfl) (fun _ _ _ _ h => h) (by intro W hW; go_simp) hHeld ?_
        simp only [List.setIfInBounds_toArray, List.set_cons_zero, List.set_cons_succ]
        refine held_take 1 41 (.slice (some ⟨g, 0, none⟩) nn c) (by simp only [List.getElem?_toArray, List.getElem?_cons_succ, List.getElem?_cons_zero]; rfl) rfl rfl (by kernel_rfl) (by kernel_rfl) (by kernel_rfl) (fun _ _ _ _ h => h) (by intro W hW; go_simp) hHeld ?_
        simp only [List.setIfInBounds_toArray, List.set_cons_zero, List.set_cons_succ]
        refine held_take 2 42 (.int .i64 h) (by simp only [List.getElem?_toArray, List.getElem?_cons_succ, List.getElem?_cons_zero]; rfl) rfl rfl (by kernel_rfl) (by kernel_rfl) (by kernel_rfl) (fun _ _ _ _ h => h) (by intro W hW; go_simp) hHeld ?_
        simp only [List.setIfInBounds_toArray, List.set_cons_zero, List.set_cons_succ]
        refine held_take 3 43 (.pointer (some ⟨g, (h * 3), none⟩)) (by simp only [List.getElem?_toArray, List.getElem?_cons_succ, List.getElem?_cons_zero]; rfl) rfl rfl (by kernel_rfl) (by kernel_rfl) (by kernel_rfl) (fun _ _ _ _ h => h) (by intro W hW; go_simp) hHeld ?_
        simp only [List.setIfInBounds_toArray, List.set_cons_zero, List.set_cons_succ]
        refine held_take 4 44 (edV x) (by simp only [List.getElem?_toArray, List.getElem?_cons_succ, List.getElem?_cons_zero]; rfl) rfl rfl (by kernel_rfl) (by kernel_rfl) (by kernel_rfl) (fun _ _ _ _ h => h) (fun W hW => exec_loadE rfl rfl hW hx) hHeld ?_
        simp only [List.setIfInBounds_toArray, List.set_cons_zero, List.set_cons_succ]
        refine held_take 5 45 (.slice (some ⟨g, 0, none⟩) nn c) (by simp only [List.getElem?_toArray, List.getElem?_cons_succ, List.getElem?_cons_zero]; rfl) rfl rfl (by kernel_rfl) (by kernel_rfl) (by kernel_rfl) (fun _ _ _ _ h => h) (by intro W hW; go_simp) hHeld ?_
        simp only [List.setIfInBounds_toArray, List.set_cons_zero, List.set_cons_succ]
        refine held_take 6 46 (.int .i64 a) (by simp only [List.getElem?_toArray, List.getElem?_cons_succ, List.getElem?_cons_zero]; rfl) rfl rfl (by kernel_rfl) (by kernel_rfl) (by kernel_rfl) (fun _ _ _ _ h => h) (by intro W hW; go_simp) hHeld ?_
        simp only [List.setIfInBounds_toArray, List.set_cons_zero, List.set_cons_succ]
        refine held_take 7 47 (.pointer (some ⟨g, (a * 3), none⟩)) (by simp only [List.getElem?_toArray, List.getElem?_cons_succ, List.getElem?_cons_zero]; rfl) rfl rfl (by kernel_rfl) (by kernel_rfl) (by kernel_rfl) (fun _ _ _ _ h => h) (by intro W hW; go_simp) hHeld ?_
        simp only [List.setIfInBounds_toArray, List.set_cons_zero, List.set_cons_succ]
        refine held_take 8 48 (edV y) (by simp only [List.getElem?_toArray, List.getElem?_cons_succ, List.getElem?_cons_zero]; rfl) rfl rfl (by kernel_rfl) (by kernel_rfl) (by kernel_rfl) (fun _ _ _ _ h => h) (fun W hW => exec_loadE rfl rfl hW hy) hHeld ?_
        simp only [List.setIfInBounds_toArray, List.set_cons_zero, List.set_cons_succ]
        refine held_call 9 49 82 #[edV x, edV y] (by simp only [List.getElem?_toArray, List.getElem?_cons_succ, List.getElem?_cons_zero]; rfl) rfl rfl (by kernel_rfl) (by intro W; go_simp) ?_
        refine (byId x y _).mono ?_
        rintro e w3 ⟨rfl, B3⟩
        have hHeld := hHeld.on B3
        have C3 : Chg [g] wr w3 := (Chg.refl [g] wr).drew.trans (Chg.of_below B3 [g])
        refine ⟨_, rfl, hHeld, ?_⟩
        simp only [List.setIfInBounds_toArray, List.set_cons_zero, List.set_cons_succ]
        refine held_take 10 50 (.bool true) (by simp only [List.getElem?_toArray, List.getElem?_cons_succ, List.getElem?_cons_zero]; rfl) rfl rfl (by kernel_rfl) (by kernel_rfl) (by kernel_rfl) (fun _ _ _ _ h => h) (by intro W hW; go_simp) hHeld ?_
        simp only [List.setIfInBounds_toArray, List.set_cons_zero, List.set_cons_succ]
        refine wpAnyH_done (by kernel_rfl) ?_ _
        go_wp2_with fail
        go_roundw
        case rel =>
          have hh := HH.out
          refine ⟨h + 1, j, by go_num, rfl, by omega, by omega, by omega, hHeld, ⟨fun p c1 c2 => ?_, hL.out.2⟩, HC.out.trans C3⟩
          by_cases e : p = h
          · subst e; rw [HKX.out, HKY.out]; exact hk
          · have := hR p h c1 (by omega) (by omega)
            rw [HKX.out] at this; rw [HKY.out]; omega
        case measure => have := HH.out; simp [intOf]; omega
      · have hdec2 : ¬ cmpN x.1 y.1 < 0 := by have := cmpN_lt x.1 y.1; simpa [hk] using this
        go_wp2_with fail
        refine wp_region_held_drew (S := fun W => RowE W g c es) (by kernel_rfl) HR.out.drew' (fun hHeld => ?_)
        refine held_take 0 40 (.func (.func 82) #[] #[]) (by simp only [List.getElem?_toArray, List.getElem?_cons_zero]; rfl) rfl rfl (by kernel_rfl) (by kernel_rfl) (by kernel_rfl) (fun _ _ _ _ h => h) (by intro W hW; go_simp) hHeld ?_
        simp only [List.setIfInBounds_toArray, List.set_cons_zero, List.set_cons_succ]
        refine held_take 1 41 (.slice (some ⟨g, 0, none⟩) nn c) (by simp only [List.getElem?_toArray, List.getElem?_cons_succ, List.getElem?_cons_zero]; rfl) rfl rfl (by kernel_rfl) (by kernel_rfl) (by kernel_rfl) (fun _ _ _ _ h => h) (by intro W hW; go_simp) hHeld ?_
        simp only [List.setIfInBounds_toArray, List.set_cons_zero, List.set_cons_succ]
        refine held_take 2 42 (.int .i64 h) (by simp only [List.getElem?_toArray, List.getElem?_cons_succ, List.getElem?_cons_zero]; rfl) rfl rfl (by kernel_rfl) (by kernel_rfl) (by kernel_rfl) (fun _ _ _ _ h => h) (by intro W hW; go_simp) hHeld ?_
        simp only [List.setIfInBounds_toArray, List.set_cons_zero, List.set_cons_succ]
        refine held_take 3 43 (.pointer (some ⟨g, (h * 3), none⟩)) (by simp only [List.getElem?_toArray, List.getElem?_cons_succ, List.getElem?_cons_zero]; rfl) rfl rfl (by kernel_rfl) (by kernel_rfl) (by kernel_rfl) (fun _ _ _ _ h => h) (by intro W hW; go_simp) hHeld ?_
        simp only [List.setIfInBounds_toArray, List.set_cons_zero, List.set_cons_succ]
        refine held_take 4 44 (edV x) (by simp only [List.getElem?_toArray, List.getElem?_cons_succ, List.getElem?_cons_zero]; rfl) rfl rfl (by kernel_rfl) (by kernel_rfl) (by kernel_rfl) (fun _ _ _ _ h => h) (fun W hW => exec_loadE rfl rfl hW hx) hHeld ?_
        simp only [List.setIfInBounds_toArray, List.set_cons_zero, List.set_cons_succ]
        refine held_take 5 45 (.slice (some ⟨g, 0, none⟩) nn c) (by simp only [List.getElem?_toArray, List.getElem?_cons_succ, List.getElem?_cons_zero]; rfl) rfl rfl (by kernel_rfl) (by kernel_rfl) (by kernel_rfl) (fun _ _ _ _ h => h) (by intro W hW; go_simp) hHeld ?_
        simp only [List.setIfInBounds_toArray, List.set_cons_zero, List.set_cons_succ]
        refine held_take 6 46 (.int .i64 a) (by simp only [List.getElem?_toArray, List.getElem?_cons_succ, List.getElem?_cons_zero]; rfl) rfl rfl (by kernel_rfl) (by kernel_rfl) (by kernel_rfl) (fun _ _ _ _ h => h) (by intro W hW; go_simp) hHeld ?_
        simp only [List.setIfInBounds_toArray, List.set_cons_zero, List.set_cons_succ]
        refine held_take 7 47 (.pointer (some ⟨g, (a * 3), none⟩)) (by simp only [List.getElem?_toArray, List.getElem?_cons_succ, List.getElem?_cons_zero]; rfl) rfl rfl (by kernel_rfl) (by kernel_rfl) (by kernel_rfl) (fun _ _ _ _ h => h) (by intro W hW; go_simp) hHeld ?_
        simp only [List.setIfInBounds_toArray, List.set_cons_zero, List.set_cons_succ]
        refine held_take 8 48 (edV y) (by simp only [List.getElem?_toArray, List.getElem?_cons_succ, List.getElem?_cons_zero]; rfl) rfl rfl (by kernel_rfl) (by kernel_rfl) (by kernel_rfl) (fun _ _ _ _ h => h) (fun W hW => exec_loadE rfl rfl hW hy) hHeld ?_
        simp only [List.setIfInBounds_toArray, List.set_cons_zero, List.set_cons_succ]
        refine held_call 9 49 82 #[edV x, edV y] (by simp only [List.getElem?_toArray, List.getElem?_cons_succ, List.getElem?_cons_zero]; rfl) rfl rfl (by kernel_rfl) (by intro W; go_simp) ?_
        refine (byId x y _).mono ?_
        rintro e w3 ⟨rfl, B3⟩
        have hHeld := hHeld.on B3
        have C3 : Chg [g] wr w3 := (Chg.refl [g] wr).drew.trans (Chg.of_below B3 [g])
        refine ⟨_, rfl, hHeld, ?_⟩
        simp only [List.setIfInBounds_toArray, List.set_cons_zero, List.set_cons_succ]
        refine held_take 10 50 (.bool false) (by simp only [List.getElem?_toArray, List.getElem?_cons_succ, List.getElem?_cons_zero]; rfl) rfl rfl (by kernel_rfl) (by kernel_rfl) (by kernel_rfl) (fun _ _ _ _ h => h) (by intro W hW; go_simp) hHeld ?_
        simp only [List.setIfInBounds_toArray, List.set_cons_zero, List.set_cons_succ]
        refine wpAnyH_done (by kernel_rfl) ?_ _
        go_wp2_with fail
        go_roundw
        case rel =>
          have hh := HH.out
          refine ⟨i, h, rfl, rfl, by omega, by omega, by omega, hHeld, ⟨hL.out.1, fun p c1 c2 => ?_⟩, HC.out.trans C3⟩
          by_cases e : p = h
          · subst e; rw [HKX.out, HKY.out]; omega
          · have := hR h p (by omega) (by omega) c2
            rw [HKX.out] at this; rw [HKY.out]; omega
        case measure => have := HH.out; simp [intOf]; omega
    · obtain rfl : i = j := by omega
      obtain ⟨im, him⟩ : ∃ im, i = im + 1 := ⟨i - 1, by omega⟩
      have q1 : IntKind.i64.wrap ((i : Int) - 1) = (im : Int) := by rw [IntWalk.i64_in _ (by omega)]; omega
      have hd : decide ((i : Int) < (i : Int)) = false := by simp
      have HIM := Lib.hid him
      have hami : a ≤ im := by omega
      clear him
      obtain ⟨wq, rfl⟩ : ∃ x, x = wr := ⟨_, rfl⟩
      go_wp2_with fail
      go_loopw [13] (fun s13 wr => ∃ (k : Nat) (cur : List Edg), s13 = .int .i64 k ∧ a ≤ k ∧ k ≤ im ∧ RowE wr g c cur ∧ Hid (Like a b es cur ∧ SrtY cur a b k ∧ K cur k = K es a ∧ (∀ p, k < p → K cur p = K es p)) ∧ Chg [g] w wr) (fun s13 _ => im - (intOf s13).toNat)
      case atStart =>
        have ham := HAM.out
        exact ⟨a, es, rfl, Nat.le_refl _, hami, HR.out, ⟨Like.refl _ _ _, Srt.y (by rw [← ham]; exact hR), rfl, fun _ _ => rfl⟩, HC.out⟩
      case round =>
        clear HR HC
        obtain ⟨k, cur, rfl, hk1, hk2, hr, hM, hC⟩ := hrel
        have HR := Lib.hid hr
        have HC := Lib.hid hC
        have hcl := hM.out.1.len
        rw [HNN.out] at hcl
        clear hr hC
        by_cases hlt2 : k < im
        · obtain ⟨kp, hkp⟩ : ∃ kp, kp = k + 1 := ⟨_, rfl⟩
          have him := HIM.out
          have hjl : k < cur.length := by omega
          have hjml : kp < cur.length := by omega
          have hx : cur[k]? = some cur[k] := List.getElem?_eq_getElem hjl
          have hy : cur[kp]? = some cur[kp] := List.getElem?_eq_getElem hjml
          generalize cur[k] = x at hx
          generalize cur[kp] = y at hy
          have hox := HR.out.okAt hx
          have hoy := HR.out.okAt hy
          have q5 : IntKind.i64.wrap ((k : Int) + 1) = (kp : Int) := by rw [IntWalk.i64_in _ (by omega)]; omega
          have q2 : k < nn := by omega
          have q3 : kp < nn := by omega
          have HKP := Lib.hid hkp
          have HCL := Lib.hid hcl
          have hsw := swp_eq hx hy
          have HLT : Hid (K cur kp < K cur k) := by
            have ham := HAM.out
            show _ < _
            rw [hM.out.2.2.1, hM.out.2.2.2 kp (by omega)]
            exact hL.out.1 kp (by omega) (by omega)
          clear hkp hcl him
          go_wp2_with fail
          refine wp_region_held_drew (S := fun _ => True) (by kernel_rfl) trivial (fun hHeld => ?_)
          refine held_take 0 61 (.slice (some ⟨g, 0, none⟩) nn c) (by simp only [List.getElem?_toArray, List.getElem?_cons_zero]; rfl) rfl rfl (by kernel_rfl) (by kernel_rfl) (by kernel_rfl) (fun _ _ _ _ h => h) (by intro W hW; go_simp) hHeld ?_
          simp only [List.setIfInBounds_toArray, List.set_cons_zero, List.set_cons_succ]
          refine held_take 1 62 (.int .i64 k) (by simp only [List.getElem?_toArray, List.getElem?_cons_succ, List.getElem?_cons_zero]; rfl) rfl rfl (by kernel_rfl) (by kernel_rfl) (by kernel_rfl) (fun _ _ _ _ h => h) (by intro W hW; go_simp) hHeld ?_
          simp only [List.setIfInBounds_toArray, List.set_cons_zero, List.set_cons_succ]
          refine held_take 2 63 (.slice (some ⟨g, 0, none⟩) nn c) (by simp only [List.getElem?_toArray, List.getElem?_cons_succ, List.getElem?_cons_zero]; rfl) rfl rfl (by kernel_rfl) (by kernel_rfl) (by kernel_rfl) (fun _ _ _ _ h => h) (by intro W hW; go_simp) hHeld ?_
          simp only [List.setIfInBounds_toArray, List.set_cons_zero, List.set_cons_succ]
          refine held_take 3 64 (.int .i64 k) (by simp only [List.getElem?_toArray, List.getElem?_cons_succ, List.getElem?_cons_zero]; rfl) rfl rfl (by kernel_rfl) (by kernel_rfl) (by kernel_rfl) (fun _ _ _ _ h => h) (by intro W hW; go_simp) hHeld ?_
          simp only [List.setIfInBounds_toArray, List.set_cons_zero, List.set_cons_succ]
          refine held_take 4 65 (.int .i64 kp) (by simp only [List.getElem?_toArray, List.getElem?_cons_succ, List.getElem?_cons_zero]; rfl) rfl rfl (by kernel_rfl) (by kernel_rfl) (by kernel_rfl) (fun _ _ _ _ h => h) (by intro W hW; go_simp) hHeld ?_
          simp only [List.setIfInBounds_toArray, List.set_cons_zero, List.set_cons_succ]
          refine held_take 5 66 (.slice (some ⟨g, 0, none⟩) nn c) (by simp only [List.getElem?_toArray, List.getElem?_cons_succ, List.getElem?_cons_zero]; rfl) rfl rfl (by kernel_rfl) (by kernel_rfl) (by kernel_rfl) (fun _ _ _ _ h => h) (by intro W hW; go_simp) hHeld ?_
          simp only [List.setIfInBounds_toArray, List.set_cons_zero, List.set_cons_succ]
          refine held_take 6 67 (.int .i64 k) (by simp only [List.getElem?_toArray, List.getElem?_cons_succ, List.getElem?_cons_zero]; rfl) rfl rfl (by kernel_rfl) (by kernel_rfl) (by kernel_rfl) (fun _ _ _ _ h => h) (by intro W hW; go_simp) hHeld ?_
          simp only [List.setIfInBounds_toArray, List.set_cons_zero, List.set_cons_succ]
          refine held_take 7 68 (.int .i64 kp) (by simp only [List.getElem?_toArray, List.getElem?_cons_succ, List.getElem?_cons_zero]; rfl) rfl rfl (by kernel_rfl) (by kernel_rfl) (by kernel_rfl) (fun _ _ _ _ h => h) (by intro W hW; go_simp) hHeld ?_
          simp only [List.setIfInBounds_toArray, List.set_cons_zero, List.set_cons_succ]
          refine held_take 8 69 (.pointer (some ⟨g, (kp * 3), none⟩)) (by simp only [List.getElem?_toArray, List.getElem?_cons_succ, List.getElem?_cons_zero]; rfl) rfl rfl (by kernel_rfl) (by kernel_rfl) (by kernel_rfl) (fun _ _ _ _ h => h) (by intro W hW; go_simp) hHeld ?_
          simp only [List.setIfInBounds_toArray, List.set_cons_zero, List.set_cons_succ]
          refine held_take 10 71 (.slice (some ⟨g, 0, none⟩) nn c) (by simp only [List.getElem?_toArray, List.getElem?_cons_succ, List.getElem?_cons_zero]; rfl) rfl rfl (by kernel_rfl) (by kernel_rfl) (by kernel_rfl) (fun _ _ _ _ h => h) (by intro W hW; go_simp) hHeld ?_
          simp only [List.setIfInBounds_toArray, List.set_cons_zero, List.set_cons_succ]
          refine held_take 11 72 (.int .i64 k) (by simp only [List.getElem?_toArray, List.getElem?_cons_succ, List.getElem?_cons_zero]; rfl) rfl rfl (by kernel_rfl) (by kernel_rfl) (by kernel_rfl) (fun _ _ _ _ h => h) (by intro W hW; go_simp) hHeld ?_
          simp only [List.setIfInBounds_toArray, List.set_cons_zero, List.set_cons_succ]
          refine held_take 12 73 (.pointer (some ⟨g, (k * 3), none⟩)) (by simp only [List.getElem?_toArray, List.getElem?_cons_succ, List.getElem?_cons_zero]; rfl) rfl rfl (by kernel_rfl) (by kernel_rfl) (by kernel_rfl) (fun _ _ _ _ h => h) (by intro W hW; go_simp) hHeld ?_
          simp only [List.setIfInBounds_toArray, List.set_cons_zero, List.set_cons_succ]
          refine held_two 9 13 70 74 (edV y) (edV x) (by simp only [List.getElem?_toArray, List.getElem?_cons_succ, List.getElem?_cons_zero]; rfl) (by simp only [List.getElem?_toArray, List.getElem?_cons_succ, List.getElem?_cons_zero]; rfl) rfl rfl (by decide) (by decide) rfl rfl rfl rfl (by kernel_rfl) (by kernel_rfl) (by kernel_rfl) (exec_loadE rfl rfl HR.out.drew' hy) (exec_loadE rfl rfl HR.out.drew' hx) (exec_loadE rfl rfl HR.out.drew' hy) (exec_loadE rfl rfl HR.out.drew' hx) trivial ?_
          simp only [List.setIfInBounds_toArray, List.set_cons_zero, List.set_cons_succ]
          refine held_take 14 75 (.pointer (some ⟨g, (k * 3), none⟩)) (by simp only [List.getElem?_toArray, List.getElem?_cons_succ, List.getElem?_cons_zero]; rfl) rfl rfl (by kernel_rfl) (by kernel_rfl) (by kernel_rfl) (fun _ _ _ _ h => h) (by intro W hW; go_simp) hHeld ?_
          simp only [List.setIfInBounds_toArray, List.set_cons_zero, List.set_cons_succ]
          refine held_storeE 15 (by simp only [List.getElem?_toArray, List.getElem?_cons_succ, List.getElem?_cons_zero]; rfl) rfl rfl (by kernel_rfl) (.tmp 75) (.tmp 70) rfl g c (k) _ y rfl rfl HR.out.drew' hjl hoy ?_
          intro w1 r1 C1 z1
          refine ⟨trivial, ?_⟩
          refine held_take 16 76 (.pointer (some ⟨g, (kp * 3), none⟩)) (by simp only [List.getElem?_toArray, List.getElem?_cons_succ, List.getElem?_cons_zero]; rfl) rfl rfl (by kernel_rfl) (by kernel_rfl) (by kernel_rfl) (fun _ _ _ _ h => h) (by intro W hW; go_simp) hHeld ?_
          simp only [List.setIfInBounds_toArray, List.set_cons_zero, List.set_cons_succ]
          refine held_storeE 17 (by simp only [List.getElem?_toArray, List.getElem?_cons_succ, List.getElem?_cons_zero]; rfl) rfl rfl (by kernel_rfl) (.tmp 76) (.tmp 74) rfl g c (kp) _ x rfl rfl r1 (by rw [List.length_set]; exact hjml) hox ?_
          intro w2 r2 C2 z2
          refine ⟨trivial, ?_⟩
          refine wpAnyH_done (by kernel_rfl) ?_ _
          go_wp2
          go_roundw
          case rel =>
            have hkp := HKP.out
            have hcl := HCL.out
            have him := HIM.out
            obtain ⟨m1, m2, m3, m4⟩ := hM.out
            refine ⟨kp, swp cur k kp, by go_num, by omega, by omega, ?_, ⟨?_, ?_, ?_, ?_⟩, (HC.out.drew.trans C1).trans C2⟩
            · rw [hsw]; exact r2
            · exact m1.swp (by omega) (by omega) (by omega) (by omega) (by have := HNN.out; omega)
            · rw [hkp]; exact m2.swp hk1 (by omega) (by omega) (by rw [← hkp]; exact HLT.out)
            · rw [K_swp (by omega) (by omega), if_pos rfl]; exact m3
            · intro p hp
              rw [K_swp (by omega) (by omega), if_neg (by omega), if_neg (by omega)]; exact m4 p (by omega)
          case measure => have := HKP.out; simp [intOf]; omega
        · obtain rfl : k = im := by omega
          have hd2 : decide ((k : Int) < (k : Int)) = false := by simp
          go_wp2_with fail
          obtain ⟨m1, m2, m3, m4⟩ := hM.out
          have him := HIM.out
          refine bodyPost_ret (v := .tuple #[]) (by simp [results, Try.results141]) rfl ?_
          refine ⟨rfl, cur, HR.out, m1, m2.done ?_, HC.out⟩
          by_cases e : b ≤ k + 1
          · exact .inl e
          · exact .inr (by rw [m3, m4 (k + 1) (by omega)]; exact hL.out.2 (k + 1) (by omega) (by omega))
end Go.Proofs.Ytklmckbpbloonaa
