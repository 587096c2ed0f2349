/- Parts of the proof: SortE3. -/
import Derived.Test.YtklmckbpbloonaaBC15
import Derived.Test.YtklmckbpbloonaaBC13
import Derived.Test.YtklmckbpbloonaaBC8
namespace Go.Proofs.Ytklmckbpbloonaa
open Go.RowKit

theorem compareU (x y : Int) (w : World) : Calls Try.prog 78 #[.int .u32 x, .int .u32 y] w fun e w' => e = .returned (.int .i64 (cmpN x y)) ∧ w' = w := by
  by_cases h1 : x < y
  · go_enter Try.func78, Try.ntmps78
    go_wp2_with (go_at_call 107; refine (SU.cmp_isNaN_int _ _).mono ?_; rintro e w' ⟨rfl, rfl⟩)
    go_ret
    exact ⟨ret_int (by unfold cmpN; rw [if_pos h1]), rfl⟩
  · have h1' : decide (x < y) = false := by simpa using h1
    by_cases h2 : y < x
    · go_enter Try.func78, Try.ntmps78
      go_wp2_with (go_at_call 107; refine (SU.cmp_isNaN_int _ _).mono ?_; rintro e w' ⟨rfl, rfl⟩)
      go_ret
      exact ⟨ret_int (by unfold cmpN; rw [if_neg (by omega), if_pos h2]), rfl⟩
    · have h2' : decide (y < x) = false := by simpa using h2
      go_enter Try.func78, Try.ntmps78
      go_wp2_with (go_at_call 107; refine (SU.cmp_isNaN_int _ _).mono ?_; rintro e w' ⟨rfl, rfl⟩)
      go_ret
      exact ⟨ret_int (by unfold cmpN; rw [if_neg (by omega), if_neg (by omega)]), rfl⟩
theorem byId (x y : Edg) (w : World) : Calls Try.prog 82 #[edV x, edV y] w fun e w' => e = .returned (.int .i64 (cmpN x.1 y.1)) ∧ Below w.heap.size w w' := by
  have HB := Lib.hid (((Below.refl w.heap.size w).alloc (Nat.le_refl _) (.cells (edC x).toArray 39)).alloc (by simp) (.cells (edC y).toArray 39))
  unfold edV edC
  go_enter Try.func82, Try.ntmps82
  go_wp2_with (go_at_call 78; refine (compareU _ _ _).mono ?_; rintro e w' ⟨rfl, rfl⟩)
  go_ret
  exact ⟨rfl, HB.out⟩
set_option maxRecDepth 100000 in
set_option maxHeartbeats 2000000 in
theorem insertion_any (g c a b : Nat) (es : List Edg) (w : World) (h : RowE w g c es) (hab : a ≤ b) (hb : b ≤ es.length) (hsz : es.length ≤ 1000000) :
    Calls Try.prog 140 #[.slice (some ⟨g, 0, none⟩) es.length c, .int .i64 a, .int .i64 b, .func (.func 82) #[] #[]] w fun e w' => e = .returned (.tuple #[]) ∧ ∃ es', RowE w' g c es' ∧ Like a b es es' ∧ Srt es' a b ∧ Chg [g] w w' := by
  obtain ⟨hc1, hc2⟩ := h.cap
  have HW := Lib.hid h
  have hn : es.length = es.length := rfl
  generalize hnn : es.length = nn at *
  clear h hn
  have p1 : IntKind.i64.wrap ((a : Int) + 1) = ((a + 1 : Nat) : Int) := by rw [IntWalk.i64_in _ (by omega)]; omega
  go_enter Try.func140, Try.ntmps140
  go_wp2_with fail
  go_loopw [8, 9] (fun s8 _ wr => ∃ (i : Nat) (cur : List Edg), s8 = .int .i64 i ∧ a + 1 ≤ i ∧ i ≤ b + 1 ∧ RowE wr g c cur ∧ Hid (Like a b es cur ∧ Srt cur a i) ∧ Chg [g] w wr) (fun s8 _ _ => b + 1 - (intOf s8).toNat)
  case atStart => exact ⟨a + 1, es, by go_num, by omega, by omega, HW.out, ⟨Like.refl _ _ _, Srt.one _ _⟩, Chg.refl _ _⟩
  case round =>
    clear HW
    obtain ⟨i, cur, rfl, hi1, hi2, hr, hL, hC⟩ := hrel
    have HR := Lib.hid hr
    have HC := Lib.hid hC
    clear hr hC
    by_cases hlt : i < b
    · have p2 : IntKind.i64.wrap ((i : Int) + 1) = ((i + 1 : Nat) : Int) := by rw [IntWalk.i64_in _ (by omega)]; omega
      obtain ⟨w0, rfl⟩ : ∃ w0, w0 = wr := ⟨_, rfl⟩
      go_wp2_with fail
      go_loopw [9] (fun s9 wr => ∃ (j : Nat) (cur : List Edg), s9 = .int .i64 j ∧ a ≤ j ∧ j ≤ i ∧ RowE wr g c cur ∧ Hid (Like a b es cur ∧ SrtX cur a (i + 1) j) ∧ Chg [g] w wr) (fun s9 _ => (intOf s9).toNat)
      case atStart => exact ⟨i, cur, rfl, by omega, Nat.le_refl _, HR.out, ⟨hL.out.1, hL.out.2.x⟩, HC.out⟩
      case round =>
        clear HR HC hL
        obtain ⟨j, cur, rfl, hj1, hj2, hr, hL, hC⟩ := hrel
        have HR := Lib.hid hr
        have HC := Lib.hid hC
        have hcl := hL.out.1.len
        rw [hnn] at hcl
        clear hr hC
        by_cases hja : a < j
        · obtain ⟨jm, hjm⟩ : ∃ jm, j = jm + 1 := ⟨j - 1, by omega⟩
          have hjl : j < cur.length := by omega
          have hjml : jm < cur.length := by omega
          have hx : cur[j]? = some cur[j] := List.getElem?_eq_getElem hjl
          have hy : cur[jm]? = some cur[jm] := List.getElem?_eq_getElem hjml
          generalize cur[j] = x at hx
          generalize cur[jm] = y at hy
          have hox := HR.out.okAt hx
          have hoy := HR.out.okAt hy
          have HKX := Lib.hid (K_at hx)
          have HKY := Lib.hid (K_at hy)
          have q1 : IntKind.i64.wrap ((j : Int) - 1) = (jm : Int) := by rw [IntWalk.i64_in _ (by omega)]; omega
          have q2 : j < nn := by omega
          have q3 : jm < nn := by omega
          have HJ := Lib.hid hjm
          have HCL := Lib.hid hcl
          have hsw := swp_eq hx hy
          clear hjm hcl
          by_cases hk : x.1 < y.1
          · have hdec : decide (cmpN x.1 y.1 < 0) = true := by rw [cmpN_lt]; simp [hk]
            have hdec2 : cmpN x.1 y.1 < 0 := by simpa using hdec
            go_wp2_with fail
            refine wp_region_held_drew (S := fun W => RowE W g c cur) (by kernel_rfl) HR.out.drew' (fun hHeld => ?_)
            refine held_take 0 18 (.int .i64 j) (by simp only [List.getElem?_toArray, List.getElem?_cons_zero]; rfl) rfl rfl (by kernel_rfl) (by kernel_rfl) (by kernel_rfl) (fun _ _ _ _ h => h) (by intro W hW; go_simp) hHeld ?_
            simp only [List.setIfInBounds_toArray, List.set_cons_zero, List.set_cons_succ]
            refine held_take 1 19 (.int .i64 a) (by simp only [List.getElem?_toArray, List.getElem?_cons_succ, List.getElem?_cons_zero]; rfl) rfl rfl (by kernel_rfl) (by kernel_rfl) (by kernel_rfl) (fun _ _ _ _ h => h) (by intro W hW; go_simp) hHeld ?_
            simp only [List.setIfInBounds_toArray, List.set_cons_zero, List.set_cons_succ]
            refine held_take 2 20 (.bool true) (by simp only [List.getElem?_toArray, List.getElem?_cons_succ, List.getElem?_cons_zero]; rfl) rfl rfl (by kernel_rfl) (by kernel_rfl) (by kernel_rfl) (fun _ _ _ _ h => h) (by intro W hW; go_simp) hHeld ?_
            simp only [List.setIfInBounds_toArray, List.set_cons_zero, List.set_cons_succ]
            refine held_take 3 21 (.bool true) (by simp only [List.getElem?_toArray, List.getElem?_cons_succ, List.getElem?_cons_zero]; rfl) rfl rfl (by kernel_rfl) (by kernel_rfl) (by kernel_rfl) (fun _ _ _ _ h => h) (by intro W hW; go_simp) hHeld ?_
            simp only [List.setIfInBounds_toArray, List.set_cons_zero, List.set_cons_succ]
            refine held_take 4 22 (.func (.func 82) #[] #[]) (by simp only [List.getElem?_toArray, List.getElem?_cons_succ, List.getElem?_cons_zero]; rfl) rfl rfl (by kernel_rfl) (by kernel_rfl) (by kernel_rfl) (fun _ _ _ _ h => h) (by intro W hW; go_simp) hHeld ?_
            simp only [List.setIfInBounds_toArray, List.set_cons_zero, List.set_cons_succ]
            refine held_take 5 23 (.slice (some ⟨g, 0, none⟩) nn c) (by simp only [List.getElem?_toArray, List.getElem?_cons_succ, List.getElem?_cons_zero]; rfl) rfl rfl (by kernel_rfl) (by kernel_rfl) (by kernel_rfl) (fun _ _ _ _ h => h) (by intro W hW; go_simp) hHeld ?_
            simp only [List.setIfInBounds_toArray, List.set_cons_zero, List.set_cons_succ]
            refine held_take 6 24 (.int .i64 j) (by simp only [List.getElem?_toArray, List.getElem?_cons_succ, List.getElem?_cons_zero]; rfl) rfl rfl (by kernel_rfl) (by kernel_rfl) (by kernel_rfl) (fun _ _ _ _ h => h) (by intro W hW; go_simp) hHeld ?_
            simp only [List.setIfInBounds_toArray, List.set_cons_zero, List.set_cons_succ]
            refine held_take 7 25 (.pointer (some ⟨g, (j * 3), none⟩)) (by simp only [List.getElem?_toArray, List.getElem?_cons_succ, List.getElem?_cons_zero]; rfl) rfl rfl (by kernel_rfl) (by kernel_rfl) (by kernel_rfl) (fun _ _ _ _ h => h) (by intro W hW; go_simp) hHeld ?_
            simp only [List.setIfInBounds_toArray, List.set_cons_zero, List.set_cons_succ]
            refine held_take 8 26 (edV x) (by simp only [List.getElem?_toArray, List.getElem?_cons_succ, List.getElem?_cons_zero]; rfl) rfl rfl (by kernel_rfl) (by kernel_rfl) (by kernel_rfl) (fun _ _ _ _ h => h) (fun W hW => exec_loadE rfl rfl hW hx) hHeld ?_
            simp only [List.setIfInBounds_toArray, List.set_cons_zero, List.set_cons_succ]
            refine held_take 9 27 (.slice (some ⟨g, 0, none⟩) nn c) (by simp only [List.getElem?_toArray, List.getElem?_cons_succ, List.getElem?_cons_zero]; rfl) rfl rfl (by kernel_rfl) (by kernel_rfl) (by kernel_rfl) (fun _ _ _ _ h => h) (by intro W hW; go_simp) hHeld ?_
            simp only [List.setIfInBounds_toArray, List.set_cons_zero, List.set_cons_succ]
            refine held_take 10 28 (.int .i64 j) (by simp only [List.getElem?_toArray, List.getElem?_cons_succ, List.getElem?_cons_zero]; rfl) rfl rfl (by kernel_rfl) (by kernel_rfl) (by kernel_rfl) (fun _ _ _ _ h => h) (by intro W hW; go_simp) hHeld ?_
            simp only [List.setIfInBounds_toArray, List.set_cons_zero, List.set_cons_succ]
            refine held_take 11 29 (.int .i64 jm) (by simp only [List.getElem?_toArray, List.getElem?_cons_succ, List.getElem?_cons_zero]; rfl) rfl rfl (by kernel_rfl) (by kernel_rfl) (by kernel_rfl) (fun _ _ _ _ h => h) (by intro W hW; go_simp) hHeld ?_
            simp only [List.setIfInBounds_toArray, List.set_cons_zero, List.set_cons_succ]
            refine held_take 12 30 (.pointer (some ⟨g, (jm * 3), none⟩)) (by simp only [List.getElem?_toArray, List.getElem?_cons_succ, List.getElem?_cons_zero]; rfl) rfl rfl (by kernel_rfl) (by kernel_rfl) (by kernel_rfl) (fun _ _ _ _ h => h) (by intro W hW; go_simp) hHeld ?_
            simp only [List.setIfInBounds_toArray, List.set_cons_zero, List.set_cons_succ]
            refine held_take 13 31 (edV y) (by simp only [List.getElem?_toArray, List.getElem?_cons_succ, List.getElem?_cons_zero]; rfl) rfl rfl (by kernel_rfl) (by kernel_rfl) (by kernel_rfl) (fun _ _ _ _ h => h) (fun W hW => exec_loadE rfl rfl hW hy) hHeld ?_
            simp only [List.setIfInBounds_toArray, List.set_cons_zero, List.set_cons_succ]
            refine held_call 14 32 82 #[edV x, edV y] (by simp only [List.getElem?_toArray, List.getElem?_cons_succ, List.getElem?_cons_zero]; rfl) rfl rfl (by kernel_rfl) (by intro W; go_simp) ?_
            refine (byId x y _).mono ?_
            rintro e w3 ⟨rfl, B3⟩
            have hHeld := hHeld.on B3
            have C3 : Chg [g] wr w3 := (Chg.refl [g] wr).drew.trans (Chg.of_below B3 [g])
            refine ⟨_, rfl, hHeld, ?_⟩
            simp only [List.setIfInBounds_toArray, List.set_cons_zero, List.set_cons_succ]
            refine held_take 15 33 (.bool true) (by simp only [List.getElem?_toArray, List.getElem?_cons_succ, List.getElem?_cons_zero]; rfl) rfl rfl (by kernel_rfl) (by kernel_rfl) (by kernel_rfl) (fun _ _ _ _ h => h) (by intro W hW; go_simp) hHeld ?_
            simp only [List.setIfInBounds_toArray, List.set_cons_zero, List.set_cons_succ]
            refine held_take 16 34 (.bool true) (by simp only [List.getElem?_toArray, List.getElem?_cons_succ, List.getElem?_cons_zero]; rfl) rfl rfl (by kernel_rfl) (by kernel_rfl) (by kernel_rfl) (fun _ _ _ _ h => h) (by intro W hW; go_simp) hHeld ?_
            simp only [List.setIfInBounds_toArray, List.set_cons_zero, List.set_cons_succ]
            refine wpAnyH_done (by kernel_rfl) ?_ _
            go_wp2_with fail
            obtain ⟨wr2, rfl⟩ : ∃ x, x = w3 := ⟨_, rfl⟩
            have HR0 := HR
            have HR := Lib.hid hHeld
            refine wp_region_held_drew (S := fun _ => True) (by kernel_rfl) trivial (fun hHeld => ?_)
            refine held_take 0 37 (.slice (some ⟨g, 0, none⟩) nn c) (by simp only [List.getElem?_toArray, List.getElem?_cons_zero]; rfl) rfl rfl (by kernel_rfl) (by kernel_rfl) (by kernel_rfl) (fun _ _ _ _ h => h) (by intro W hW; go_simp) hHeld ?_
            simp only [List.setIfInBounds_toArray, List.set_cons_zero, List.set_cons_succ]
            refine held_take 1 38 (.int .i64 j) (by simp only [List.getElem?_toArray, List.getElem?_cons_succ, List.getElem?_cons_zero]; rfl) rfl rfl (by kernel_rfl) (by kernel_rfl) (by kernel_rfl) (fun _ _ _ _ h => h) (by intro W hW; go_simp) hHeld ?_
            simp only [List.setIfInBounds_toArray, List.set_cons_zero, List.set_cons_succ]
            refine held_take 2 39 (.slice (some ⟨g, 0, none⟩) nn c) (by simp only [List.getElem?_toArray, List.getElem?_cons_succ, List.getElem?_cons_zero]; rfl) rfl rfl (by kernel_rfl) (by kernel_rfl) (by kernel_rfl) (fun _ _ _ _ h => h) (by intro W hW; go_simp) hHeld ?_
            simp only [List.setIfInBounds_toArray, List.set_cons_zero, List.set_cons_succ]
            refine held_take 3 40 (.int .i64 j) (by simp only [List.getElem?_toArray, List.getElem?_cons_succ, List.getElem?_cons_zero]; rfl) rfl rfl (by kernel_rfl) (by kernel_rfl) (by kernel_rfl) (fun _ _ _ _ h => h) (by intro W hW; go_simp) hHeld ?_
            simp only [List.setIfInBounds_toArray, List.set_cons_zero, List.set_cons_succ]
            refine held_take 4 41 (.int .i64 jm) (by simp only [List.getElem?_toArray, List.getElem?_cons_succ, List.getElem?_cons_zero]; rfl) rfl rfl (by kernel_rfl) (by kernel_rfl) (by kernel_rfl) (fun _ _ _ _ h => h) (by intro W hW; go_simp) hHeld ?_
            simp only [List.setIfInBounds_toArray, List.set_cons_zero, List.set_cons_succ]
            refine held_take 5 42 (.slice (some ⟨g, 0, none⟩) nn c) (by simp only [List.getElem?_toArray, List.getElem?_cons_succ, List.getElem?_cons_zero]; rfl) rfl rfl (by kernel_rfl) (by kernel_rfl) (by kernel_rfl) (fun _ _ _ _ h => h) (by intro W hW; go_simp) hHeld ?_
            simp only [List.setIfInBounds_toArray, List.set_cons_zero, List.set_cons_succ]
            refine held_take 6 43 (.int .i64 j) (by simp only [List.getElem?_toArray, List.getElem?_cons_succ, List.getElem?_cons_zero]; rfl) rfl rfl (by kernel_rfl) (by kernel_rfl) (by kernel_rfl) (fun _ _ _ _ h => h) (by intro W hW; go_simp) hHeld ?_
            simp only [List.setIfInBounds_toArray, List.set_cons_zero, List.set_cons_succ]
            refine held_take 7 44 (.int .i64 jm) (by simp only [List.getElem?_toArray, List.getElem?_cons_succ, List.getElem?_cons_zero]; rfl) rfl rfl (by kernel_rfl) (by kernel_rfl) (by kernel_rfl) (fun _ _ _ _ h => h) (by intro W hW; go_simp) hHeld ?_
            simp only [List.setIfInBounds_toArray, List.set_cons_zero, List.set_cons_succ]
            refine held_take 8 45 (.pointer (some ⟨g, (jm * 3), none⟩)) (by simp only [List.getElem?_toArray, List.getElem?_cons_succ, List.getElem?_cons_zero]; rfl) rfl rfl (by kernel_rfl) (by kernel_rfl) (by kernel_rfl) (fun _ _ _ _ h => h) (by intro W hW; go_simp) hHeld ?_
            simp only [List.setIfInBounds_toArray, List.set_cons_zero, List.set_cons_succ]
            refine held_take 10 47 (.slice (some ⟨g, 0, none⟩) nn c) (by simp only [List.getElem?_toArray, List.getElem?_cons_succ, List.getElem?_cons_zero]; rfl) rfl rfl (by kernel_rfl) (by kernel_rfl) (by kernel_rfl) (fun _ _ _ _ h => h) (by intro W hW; go_simp) hHeld ?_
            simp only [List.setIfInBounds_toArray, List.set_cons_zero, List.set_cons_succ]
            refine held_take 11 48 (.int .i64 j) (by simp only [List.getElem?_toArray, List.getElem?_cons_succ, List.getElem?_cons_zero]; rfl) rfl rfl (by kernel_rfl) (by kernel_rfl) (by kernel_rfl) (fun _ _ _ _ h => h) (by intro W hW; go_simp) hHeld ?_
            simp only [List.setIfInBounds_toArray, List.set_cons_zero, List.set_cons_succ]
            refine held_take 12 49 (.pointer (some ⟨g, (j * 3), none⟩)) (by simp only [List.getElem?_toArray, List.getElem?_cons_succ, List.getElem?_cons_zero]; rfl) rfl rfl (by kernel_rfl) (by kernel_rfl) (by kernel_rfl) (fun _ _ _ _ h => h) (by intro W hW; go_simp) hHeld ?_
            simp only [List.setIfInBounds_toArray, List.set_cons_zero, List.set_cons_succ]
            refine held_two 9 13 46 50 (edV y) (edV x) (by simp only [List.getElem?_toArray, List.getElem?_cons_succ, List.getElem?_cons_zero]; rfl) (by simp only [List.getElem?_toArray, List.getElem?_cons_succ, List.getElem?_cons_zero]; rfl) rfl rfl (by decide) (by decide) rfl rfl rfl rfl (by kernel_rfl) (by kernel_rfl) (by kernel_rfl) (exec_loadE rfl rfl HR.out.drew' hy) (exec_loadE rfl rfl HR.out.drew' hx) (exec_loadE rfl rfl HR.out.drew' hy) (exec_loadE rfl rfl HR.out.drew' hx) trivial ?_
            simp only [List.setIfInBounds_toArray, List.set_cons_zero, List.set_cons_succ]
            refine held_take 14 51 (.pointer (some ⟨g, (j * 3), none⟩)) (by simp only [List.getElem?_toArray, List.getElem?_cons_succ, List.getElem?_cons_zero]; rfl) rfl rfl (by kernel_rfl) (by kernel_rfl) (by kernel_rfl) (fun _ _ _ _ h => h) (by intro W hW; go_simp) hHeld ?_
            simp only [List.setIfInBounds_toArray, List.set_cons_zero, List.set_cons_succ]
            refine held_storeE 15 (by simp only [List.getElem?_toArray, List.getElem?_cons_succ, List.getElem?_cons_zero]; rfl) rfl rfl (by kernel_rfl) (.tmp 51) (.tmp 46) rfl g c (j) _ y rfl rfl HR.out.drew' hjl hoy ?_
            intro w1 r1 C1 z1
            refine ⟨trivial, ?_⟩
            refine held_take 16 52 (.pointer (some ⟨g, (jm * 3), none⟩)) (by simp only [List.getElem?_toArray, List.getElem?_cons_succ, List.getElem?_cons_zero]; rfl) rfl rfl (by kernel_rfl) (by kernel_rfl) (by kernel_rfl) (fun _ _ _ _ h => h) (by intro W hW; go_simp) hHeld ?_
            simp only [List.setIfInBounds_toArray, List.set_cons_zero, List.set_cons_succ]
            refine held_storeE 17 (by simp only [List.getElem?_toArray, List.getElem?_cons_succ, List.getElem?_cons_zero]; rfl) rfl rfl (by kernel_rfl) (.tmp 52) (.tmp 50) rfl g c (jm) _ x rfl rfl r1 (by rw [List.length_set]; exact hjml) hox ?_
            intro w2 r2 C2 z2
            refine ⟨trivial, ?_⟩
            refine wpAnyH_done (by kernel_rfl) ?_ _
            go_wp2
            go_roundw
            case rel =>
              have hj0 := HJ.out
              have hcl0 := HCL.out
              refine ⟨jm, swp cur j jm, by go_num, by have := HJ.out; omega, by have := HJ.out; omega, ?_, ⟨?_, ?_⟩, ((HC.out.trans C3).drew.trans C1).trans C2⟩
              · rw [hsw]; exact r2
              · exact hL.out.1.swp (by omega) (by have := HJ.out; omega) (by omega) (by omega) (by omega)
              · have e : jm = j - 1 := by have := HJ.out; omega
                rw [e]
                refine hL.out.2.swp hja (by omega) (by omega) ?_
                rw [← e, HKX.out, HKY.out]; exact hk
            case measure => have := HJ.out; simp [intOf]; omega
          · have hdec : decide (cmpN x.1 y.1 < 0) = false := by rw [cmpN_lt]; simpa using hk
            have hdec2 : ¬ cmpN x.1 y.1 < 0 := by simpa using hdec
            go_wp2_with fail
            refine wp_region_held_drew (S := fun W => RowE W g c cur) (by kernel_rfl) HR.out.drew' (fun hHeld => ?_)
            refine held_take 0 18 (.int .i64 j) (by simp only [List.getElem?_toArray, List.getElem?_cons_zero]; rfl) rfl rfl (by kernel_rfl) (by kernel_rfl) (by kernel_rfl) (fun _ _ _ _ h => h) (by intro W hW; go_simp) hHeld ?_
            simp only [List.setIfInBounds_toArray, List.set_cons_zero, List.set_cons_succ]
            refine held_take 1 19 (.int .i64 a) (by simp only [List.getElem?_toArray, List.getElem?_cons_succ, List.getElem?_cons_zero]; rfl) rfl rfl (by kernel_rfl) (by kernel_rfl) (by kernel_rfl) (fun _ _ _ _ h => h) (by intro W hW; go_simp) hHeld ?_
            simp only [List.setIfInBounds_toArray, List.set_cons_zero, List.set_cons_succ]
            refine held_take 2 20 (.bool true) (by simp only [List.getElem?_toArray, List.getElem?_cons_succ, List.getElem?_cons_zero]; rfl) rfl rfl (by kernel_rfl) (by kernel_rfl) (by kernel_rfl) (fun _ _ _ _ h => h) (by intro W hW; go_simp) hHeld ?_
            simp only [List.setIfInBounds_toArray, List.set_cons_zero, List.set_cons_succ]
            refine held_take 3 21 (.bool true) (by simp only [List.getElem?_toArray, List.getElem?_cons_succ, List.getElem?_cons_zero]; rfl) rfl rfl (by kernel_rfl) (by kernel_rfl) (by kernel_rfl) (fun _ _ _ _ h => h) (by intro W hW; go_simp) hHeld ?_
            simp only [List.setIfInBounds_toArray, List.set_cons_zero, List.set_cons_succ]
            refine held_take 4 22 (.func (.func 82) #[] #[]) (by simp only [List.getElem?_toArray, List.getElem?_cons_succ, List.getElem?_cons_zero]; rfl) rfl rfl (by kernel_rfl) (by kernel_rfl) (by kernel_rfl) (fun _ _ _ _ h => h) (by intro W hW; go_simp) hHeld ?_
            simp only [List.setIfInBounds_toArray, List.set_cons_zero, List.set_cons_succ]
            refine held_take 5 23 (.slice (some ⟨g, 0, none⟩) nn c) (by simp only [List.getElem?_toArray, List.getElem?_cons_succ, List.getElem?_cons_zero]; rfl) rfl rfl (by kernel_rfl) (by kernel_rfl) (by kernel_rfl) (fun _ _ _ _ h => h) (by intro W hW; go_simp) hHeld ?_
            simp only [List.setIfInBounds_toArray, List.set_cons_zero, List.set_cons_succ]
            refine held_take 6 24 (.int .i64 j) (by simp only [List.getElem?_toArray, List.getElem?_cons_succ, List.getElem?_cons_zero]; rfl) rfl rfl (by kernel_rfl) (by kernel_rfl) (by kernel_rfl) (fun _ _ _ _ h => h) (by intro W hW; go_simp) hHeld ?_
            simp only [List.setIfInBounds_toArray, List.set_cons_zero, List.set_cons_succ]
            refine held_take 7 25 (.pointer (some ⟨g, (j * 3), none⟩)) (by simp only [List.getElem?_toArray, List.getElem?_cons_succ, List.getElem?_cons_zero]; rfl) rfl rfl (by kernel_rfl) (by kernel_rfl) (by kernel_rfl) (fun _ _ _ _ h => h) (by intro W hW; go_simp) hHeld ?_
            simp only [List.setIfInBounds_toArray, List.set_cons_zero, List.set_cons_succ]
            refine held_take 8 26 (edV x) (by simp only [List.getElem?_toArray, List.getElem?_cons_succ, List.getElem?_cons_zero]; rfl) rfl rfl (by kernel_rfl) (by kernel_rfl) (by kernel_rfl) (fun _ _ _ _ h => h) (fun W hW => exec_loadE rfl rfl hW hx) hHeld ?_
            simp only [List.setIfInBounds_toArray, List.set_cons_zero, List.set_cons_succ]
            refine held_take 9 27 (.slice (some ⟨g, 0, none⟩) nn c) (by simp only [List.getElem?_toArray, List.getElem?_cons_succ, List.getElem?_cons_zero]; rfl) rfl rfl (by kernel_rfl) (by kernel_rfl) (by kernel_rfl) (fun _ _ _ _ h => h) (by intro W hW; go_simp) hHeld ?_
            simp only [List.setIfInBounds_toArray, List.set_cons_zero, List.set_cons_succ]
            refine held_take 10 28 (.int .i64 j) (by simp only [List.getElem?_toArray, List.getElem?_cons_succ, List.getElem?_cons_zero]; rfl) rfl rfl (by kernel_rfl) (by kernel_rfl) (by kernel_rfl) (fun _ _ _ _ h => h) (by intro W hW; go_simp) hHeld ?_
            simp only [List.setIfInBounds_toArray, List.set_cons_zero, List.set_cons_succ]
            refine held_take 11 29 (.int .i64 jm) (by simp only [List.getElem?_toArray, List.getElem?_cons_succ, List.getElem?_cons_zero]; rfl) rfl rfl (by kernel_rfl) (by kernel_rfl) (by kernel_rfl) (fun _ _ _ _ h => h) (by intro W hW; go_simp) hHeld ?_
            simp only [List.setIfInBounds_toArray, List.set_cons_zero, List.set_cons_succ]
            refine held_take 12 30 (.pointer (some ⟨g, (jm * 3), none⟩)) (by simp only [List.getElem?_toArray, List.getElem?_cons_succ, List.getElem?_cons_zero]; rfl) rfl rfl (by kernel_rfl) (by kernel_rfl) (by kernel_rfl) (fun _ _ _ _ h => h) (by intro W hW; go_simp) hHeld ?_
            simp only [List.setIfInBounds_toArray, List.set_cons_zero, List.set_cons_succ]
            refine held_take 13 31 (edV y) (by simp only [List.getElem?_toArray, List.getElem?_cons_succ, List.getElem?_cons_zero]; rfl) rfl rfl (by kernel_rfl) (by kernel_rfl) (by kernel_rfl) (fun _ _ _ _ h => h) (fun W hW => exec_loadE rfl rfl hW hy) hHeld ?_
            simp only [List.setIfInBounds_toArray, List.set_cons_zero, List.set_cons_succ]
            refine held_call 14 32 82 #[edV x, edV y] (by simp only [List.getElem?_toArray, List.getElem?_cons_succ, List.getElem?_cons_zero]; rfl) rfl rfl (by kernel_rfl) (by intro W; go_simp) ?_
            refine (byId x y _).mono ?_
            rintro e w3 ⟨rfl, B3⟩
            have hHeld := hHeld.on B3
            have C3 : Chg [g] wr w3 := (Chg.refl [g] wr).drew.trans (Chg.of_below B3 [g])
            refine ⟨_, rfl, hHeld, ?_⟩
            simp only [List.setIfInBounds_toArray, List.set_cons_zero, List.set_cons_succ]
            refine held_take 15 33 (.bool false) (by simp only [List.getElem?_toArray, List.getElem?_cons_succ, List.getElem?_cons_zero]; rfl) rfl rfl (by kernel_rfl) (by kernel_rfl) (by kernel_rfl) (fun _ _ _ _ h => h) (by intro W hW; go_simp) hHeld ?_
            simp only [List.setIfInBounds_toArray, List.set_cons_zero, List.set_cons_succ]
            refine held_take 16 34 (.bool false) (by simp only [List.getElem?_toArray, List.getElem?_cons_succ, List.getElem?_cons_zero]; rfl) rfl rfl (by kernel_rfl) (by kernel_rfl) (by kernel_rfl) (fun _ _ _ _ h => h) (by intro W hW; go_simp) hHeld ?_
            simp only [List.setIfInBounds_toArray, List.set_cons_zero, List.set_cons_succ]
            refine wpAnyH_done (by kernel_rfl) ?_ _
            go_wp2_with fail
            go_roundw
            case rel =>
              refine ⟨i + 1, cur, by go_num, by omega, by omega, hHeld, ⟨hL.out.1, hL.out.2.done (.inr ?_)⟩, HC.out.trans C3⟩
              have e : j - 1 = jm := by have := HJ.out; omega
              rw [e, HKX.out, HKY.out]; omega
            case measure => simp [intOf]; omega
        · obtain rfl : j = a := by omega
          have hdd : decide ((j : Int) < (j : Int)) = false := by simp
          go_wp2_with fail
          refine wp_region_held_drew (S := fun W => RowE W g c cur) (by kernel_rfl) HR.out.drew' (fun hHeld => ?_)
          refine held_take 0 18 (.int .i64 j) (by simp only [List.getElem?_toArray, List.getElem?_cons_zero]; rfl) rfl rfl (by kernel_rfl) (by kernel_rfl) (by kernel_rfl) (fun _ _ _ _ h => h) (by intro W hW; go_simp) hHeld ?_
          simp only [List.setIfInBounds_toArray, List.set_cons_zero, List.set_cons_succ]
          refine held_take 1 19 (.int .i64 j) (by simp only [List.getElem?_toArray, List.getElem?_cons_succ, List.getElem?_cons_zero]; rfl) rfl rfl (by kernel_rfl) (by kernel_rfl) (by kernel_rfl) (fun _ _ _ _ h => h) (by intro W hW; go_simp) hHeld ?_
          simp only [List.setIfInBounds_toArray, List.set_cons_zero, List.set_cons_succ]
          refine held_take 2 20 (.bool false) (by simp only [List.getElem?_toArray, List.getElem?_cons_succ, List.getElem?_cons_zero]; rfl) rfl rfl (by kernel_rfl) (by kernel_rfl) (by kernel_rfl) (fun _ _ _ _ h => h) (by intro W hW; go_simp) hHeld ?_
          simp only [List.setIfInBounds_toArray, List.set_cons_zero, List.set_cons_succ]
          refine held_take 3 21 (.bool false) (by simp only [List.getElem?_toArray, List.getElem?_cons_succ, List.getElem?_cons_zero]; rfl) rfl rfl (by kernel_rfl) (by kernel_rfl) (by kernel_rfl) (fun _ _ _ _ h => h) (by intro W hW; go_simp) hHeld ?_
          simp only [List.setIfInBounds_toArray, List.set_cons_zero, List.set_cons_succ]
          refine held_skip 4 22 (by simp only [List.getElem?_toArray, List.getElem?_cons_succ, List.getElem?_cons_zero]; rfl) rfl rfl (by kernel_rfl) (by kernel_rfl) (by kernel_rfl) (fun _ _ _ _ h => h) hHeld ?_
          simp only [List.setIfInBounds_toArray, List.set_cons_zero, List.set_cons_succ]
          refine held_skip 5 23 (by simp only [List.getElem?_toArray, List.getElem?_cons_succ, List.getElem?_cons_zero]; rfl) rfl rfl (by kernel_rfl) (by kernel_rfl) (by kernel_rfl) (fun _ _ _ _ h => h) hHeld ?_
          simp only [List.setIfInBounds_toArray, List.set_cons_zero, List.set_cons_succ]
          refine held_skip 6 24 (by simp only [List.getElem?_toArray, List.getElem?_cons_succ, List.getElem?_cons_zero]; rfl) rfl rfl (by kernel_rfl) (by kernel_rfl) (by kernel_rfl) (fun _ _ _ _ h => h) hHeld ?_
          simp only [List.setIfInBounds_toArray, List.set_cons_zero, List.set_cons_succ]
          refine held_skip 7 25 (by simp only [List.getElem?_toArray, List.getElem?_cons_succ, List.getElem?_cons_zero]; rfl) rfl rfl (by kernel_rfl) (by kernel_rfl) (by kernel_rfl) (fun _ _ _ _ h => h) hHeld ?_
          simp only [List.setIfInBounds_toArray, List.set_cons_zero, List.set_cons_succ]
          refine held_skip 8 26 (by simp only [List.getElem?_toArray, List.getElem?_cons_succ, List.getElem?_cons_zero]; rfl) rfl rfl (by kernel_rfl) (by kernel_rfl) (by kernel_rfl) (fun _ _ _ _ h => h) hHeld ?_
          simp only [List.setIfInBounds_toArray, List.set_cons_zero, List.set_cons_succ]
          refine held_skip 9 27 (by simp only [List.getElem?_toArray, List.getElem?_cons_succ, List.getElem?_cons_zero]; rfl) rfl rfl (by kernel_rfl) (by kernel_rfl) (by kernel_rfl) (fun _ _ _ _ h => h) hHeld ?_
          simp only [List.setIfInBounds_toArray, List.set_cons_zero, List.set_cons_succ]
          refine held_skip 10 28 (by simp only [List.getElem?_toArray, List.getElem?_cons_succ, List.getElem?_cons_zero]; rfl) rfl rfl (by kernel_rfl) (by kernel_rfl) (by kernel_rfl) (fun _ _ _ _ h => h) hHeld ?_
          simp only [List.setIfInBounds_toArray, List.set_cons_zero, List.set_cons_succ]
          refine held_skip 11 29 (by simp only [List.getElem?_toArray, List.getElem?_cons_succ, List.getElem?_cons_zero]; rfl) rfl rfl (by kernel_rfl) (by kernel_rfl) (by kernel_rfl) (fun _ _ _ _ h => h) hHeld ?_
          simp only [List.setIfInBounds_toArray, List.set_cons_zero, List.set_cons_succ]
          refine held_skip 12 30 (by simp only [List.getElem?_toArray, List.getElem?_cons_succ, List.getElem?_cons_zero]; rfl) rfl rfl (by kernel_rfl) (by kernel_rfl) (by kernel_rfl) (fun _ _ _ _ h => h) hHeld ?_
          simp only [List.setIfInBounds_toArray, List.set_cons_zero, List.set_cons_succ]
          refine held_skip 13 31 (by simp only [List.getElem?_toArray, List.getElem?_cons_succ, List.getElem?_cons_zero]; rfl) rfl rfl (by kernel_rfl) (by kernel_rfl) (by kernel_rfl) (fun _ _ _ _ h => h) hHeld ?_
          simp only [List.setIfInBounds_toArray, List.set_cons_zero, List.set_cons_succ]
          refine held_skip 14 32 (by simp only [List.getElem?_toArray, List.getElem?_cons_succ, List.getElem?_cons_zero]; rfl) rfl rfl (by kernel_rfl) (by kernel_rfl) (by kernel_rfl) (fun _ _ _ _ h => h) hHeld ?_
          simp only [List.setIfInBounds_toArray, List.set_cons_zero, List.set_cons_succ]
          refine held_skip 15 33 (by simp only [List.getElem?_toArray, List.getElem?_cons_succ, List.getElem?_cons_zero]; rfl) rfl rfl (by kernel_rfl) (by kernel_rfl) (by kernel_rfl) (fun _ _ _ _ h => h) hHeld ?_
          simp only [List.setIfInBounds_toArray, List.set_cons_zero, List.set_cons_succ]
          refine held_take 16 34 (.bool false) (by simp only [List.getElem?_toArray, List.getElem?_cons_succ, List.getElem?_cons_zero]; rfl) rfl rfl (by kernel_rfl) (by kernel_rfl) (by kernel_rfl) (fun _ _ _ _ h => h) (by intro W hW; go_simp) hHeld ?_
          simp only [List.setIfInBounds_toArray, List.set_cons_zero, List.set_cons_succ]
          refine wpAnyH_done (by kernel_rfl) ?_ _
          go_wp2_with fail
          go_roundw
          case rel => exact ⟨i + 1, cur, by go_num, by omega, by omega, HR.out.drew', ⟨hL.out.1, hL.out.2.done (.inl (Nat.le_refl _))⟩, HC.out.drew⟩
          case measure => simp [intOf]; omega
    · have hd : decide ((i : Int) < (b : Int)) = false := by simp; omega
      go_wp2_with fail
      go_end0
      exact ⟨rfl, cur, HR.out, hL.out.1, fun p q h1 h2 h3 => hL.out.2 p q h1 h2 (by omega), HC.out⟩
end Go.Proofs.Ytklmckbpbloonaa
