/- The walk of the law DiskPlays. -/
import Derived.Test.YtnbaamjdlgojaaaDkSame
namespace Go.Proofs.Ytnbaamjdlgojaaa
open Go.RowKit

/-- What an act leaves. -/
def didS (s : DS) (x : Deed) : DS :=
  if x.kind.tmod 5 = 1 ∨ x.kind.tmod 5 = -1 then barriered s
  else if x.kind.tmod 5 = 2 ∨ x.kind.tmod 5 = -2 then s
  else if x.kind.tmod 5 = 3 ∨ x.kind.tmod 5 = -3 then fused s x.at_
  else if x.kind.tmod 5 = 4 ∨ x.kind.tmod 5 = -4 then crashed s x.kept
  else wrote s x.at_ (fillTo x.b 512)
theorem do_any (B M g b l h sh la wa : Nat) (s : DS) (x : Deed) (w : World) (p : Pair w B M g b l h sh la wa s) (hx : DeedOk w B x) (hst : 0 ≤ s.steps ∧ s.steps ≤ 1000000) (hl : s.cache.length ≤ 4096) :
    Calls Try.prog 20 #[.pointer (some ⟨g, 0, none⟩), .pointer (some ⟨h, 0, none⟩), deedV x] w fun e w' => e = .returned (.bool true) ∧ Pair w' B M g b l h sh la wa (didS s x) ∧ Below B w w' := by
  unfold didS
  by_cases h1 : x.kind.tmod 5 = 1 ∨ x.kind.tmod 5 = -1
  · rw [if_pos h1]; exact do_barrier B M g b l h sh la wa s x w p hst h1
  · rw [if_neg h1]
    by_cases h2 : x.kind.tmod 5 = 2 ∨ x.kind.tmod 5 = -2
    · rw [if_pos h2]; exact do_read B M g b l h sh la wa s x w p h2
    · rw [if_neg h2]
      by_cases h3 : x.kind.tmod 5 = 3 ∨ x.kind.tmod 5 = -3
      · rw [if_pos h3]; exact do_fuse B M g b l h sh la wa s x w p hx.at_ h3
      · rw [if_neg h3]
        by_cases h4 : x.kind.tmod 5 = 4 ∨ x.kind.tmod 5 = -4
        · rw [if_pos h4]; exact do_crash B M g b l h sh la wa s x w p hx.kept hl h4
        · rw [if_neg h4]; exact do_write B M g b l h sh la wa s x w p hst (by omega)
theorem did_small {s : DS} {x : Deed} : (didS s x).steps ≤ s.steps + 1 ∧ s.steps ≤ (didS s x).steps ∧ (didS s x).cache.length ≤ s.cache.length + 1 := by
  have ht : (ticked s).steps ≤ s.steps + 1 ∧ s.steps ≤ (ticked s).steps ∧ (ticked s).cache = s.cache := by
    unfold ticked; split
    · simp; omega
    · simp; omega
  unfold didS
  split
  · unfold barriered
    split
    · omega
    · split
      · rw [ht.2.2]; omega
      · simp only [List.length_nil]; omega
  · split
    · omega
    · split
      · unfold fused; simp; omega
      · split
        · unfold crashed; simp; omega
        · unfold wrote
          split
          · split
            · rw [ht.2.2]; omega
            · have := mput_len s.cache x.at_ (fillTo x.b 512)
              simp only; omega
          · omega
set_option maxRecDepth 100000 in
set_option maxHeartbeats 8000000 in
theorem diskPlays_any (n : Int) (A1 : Option Addr) (n1 c1 : Nat) (dl : List Deed) (w : World) (h1 : RdA w w.heap.size A1 n1 c1 dl) :
    Calls Try.prog 5 #[.int .i64 n, .slice A1 n1 c1] w fun e w' => e = .returned (.bool true) ∧ Below w.heap.size w w' := by
  obtain ⟨_, b11, b12, _⟩ := id h1
  by_cases hn : n < 64 ∨ 4096 < n
  · go_enter Try.func5, Try.ntmps5
    go_wp2_with (first
      | (go_at_call 6; refine (awake2 _).mono ?_; rintro e w0 ⟨rfl, k0⟩)
      | (go_at_call 7; refine (new_bad _ _ hn).mono ?_; rintro e w1 ⟨rfl, rfl⟩)
      | (go_at_call 18; refine (rnew_bad _ _ hn).mono ?_; rintro e w1 ⟨rfl, rfl⟩))
    go_ret
    exact ⟨rfl, k0⟩
  · obtain ⟨m, rfl⟩ : ∃ m : Nat, n = m := ⟨n.toNat, by omega⟩
    have hm1 : 64 ≤ m := by omega
    have hm2 : m ≤ 4096 := by omega
    by_cases hbig : 40 < n1
    · have q1 : (40 : Int) < (n1 : Int) := by omega
      go_enter Try.func5, Try.ntmps5
      go_wp2_with (first
        | (go_at_call 6; refine (awake2 _).mono ?_; rintro e w0 ⟨rfl, k0⟩)
        | (go_at_call 7; refine (new_any m _ hm1 hm2).mono ?_; rintro e w1 ⟨g, b, l, rfl, d1, hg, hb, hl, B1⟩)
        | (go_at_call 18; refine (rnew_any m _ hm1 hm2).mono ?_; rintro e w2 ⟨h, sh, la, wa, rfl, r2, hh, hsh, hla, hwa, B2⟩))
      go_ret
      exact ⟨rfl, (k0.trans (B1.mono k0.size)).trans (B2.mono (by have := B1.size; have := k0.size; omega))⟩
    · have q1 : decide ((40 : Int) < (n1 : Int)) = false := by simp; omega
      have hn1 : n1 ≤ 40 := by omega
      clear hbig hn
      go_enter Try.func5, Try.ntmps5
      go_wp2_with (first
        | (go_at_call 6; refine (awake2 _).mono ?_; rintro e w0 ⟨rfl, k0⟩)
        | (go_at_call 7; refine (new_any m _ hm1 hm2).mono ?_; rintro e w1 ⟨g, b, l, rfl, d1, hg, hb, hl, B1⟩)
        | (go_at_call 18; refine (rnew_any m _ hm1 hm2).mono ?_; rintro e w2 ⟨h, sh, la, wa, rfl, r2, hh, hsh, hla, hwa, B2⟩))
      have hs0 := k0.size
      have hs1 := B1.size
      have HP : Hid (Pair w2 w.heap.size w1.heap.size g b l h sh la wa (freshS m)) := ⟨d1.below (B2.mono (Nat.le_refl _)), r2, ⟨by omega, by omega, by omega, d1.head.lt, d1.cache.lt, d1.last.1.lt⟩, ⟨by omega, hh, hsh, hla, hwa⟩⟩
      have HB : Hid (Below w.heap.size w w2) := (k0.trans (B1.mono k0.size)).trans (B2.mono (by omega))
      clear d1 r2 k0 B1 B2
      generalize w1.heap.size = M at *
      go_loopw [9, 48] (fun _ i wr => ∃ (k : Nat) (s : DS), k ≤ n1 ∧ i = .int .i64 k ∧ Pair wr w.heap.size M g b l h sh la wa s ∧ Hid (0 ≤ s.steps ∧ s.steps ≤ k ∧ s.cache.length ≤ k) ∧ Below w.heap.size w wr) (fun _ i _ => n1 - (intOf i).toNat)
      case atStart => exact ⟨0, freshS m, by omega, rfl, HP.out, ⟨by simp [freshS], by simp [freshS], by simp [freshS]⟩, HB.out⟩
      case round =>
        clear HP HB
        obtain ⟨k, s, hk, rfl, hp, hst, hbr⟩ := hrel
        have hbs := hbr.size
        by_cases hlt : k < n1
        · have hq := h1.below hbr
          obtain ⟨ad, x, rfl, hbl, hx, hxo, hc1, hc2, hc3, hc4⟩ := hq.at_ hlt
          have HXO := Lib.hid (h1.2.2.2 x (List.mem_of_getElem? hx))
          have hbx : Below wr.heap.size wr (wr.alloc (.cells #[.int .i64 x.kind, .int .i64 x.at_, .int .u8 x.b, .slice x.kA x.kn x.kc] 30)) := (Below.refl _ wr).alloc (Nat.le_refl _) _
          have HP := Lib.hid (hp.on hbx)
          have HBR := Lib.hid (hbr.trans (hbx.mono hbs))
          have HX := Lib.hid (Blk.new wr 30 #[.int .i64 x.kind, .int .i64 x.at_, .int .u8 x.b, .slice x.kA x.kn x.kc])
          have HST : Hid (0 ≤ s.steps ∧ s.steps ≤ 1000000) := ⟨hst.out.1, by have := hst.out.2.1; omega⟩
          have hcl := hst.out.2.2
          have hkn := hxo.kept.2
          clear hx hxo hq hp hbr hbx
          have hlight : Calls Try.prog 19 #[deedV x] (wr.alloc (.cells #[.int .i64 x.kind, .int .i64 x.at_, .int .u8 x.b, .slice x.kA x.kn x.kc] 30)) fun e w' => e = .returned (.bool (decide (x.kn ≤ 500))) ∧ Below (wr.heap.size + 1) (wr.alloc (.cells #[.int .i64 x.kind, .int .i64 x.at_, .int .u8 x.b, .slice x.kA x.kn x.kc] 30)) w' := (light_any x _ (by omega)).mono fun e w' h => ⟨h.1, h.2.mono (by simp)⟩
          by_cases hlg : x.kn ≤ 500
          · have e : decide (x.kn ≤ 500) = true := by simp [hlg]
            rw [e] at hlight
            clear e hlg
            go_wp2_with (go_at_call 19; refine hlight.mono ?_; rintro e w3 ⟨rfl, B3⟩)
            have hs3 := B3.size
            simp only [World.size_alloc] at hs3
            have X3 := (HX.out.below B3 (by omega)).drew
            have y0 : w3.drew.cell? ⟨wr.heap.size, 0, none⟩ = some (.int .i64 x.kind) := X3.cell 0
            have y1 : w3.drew.cell? ⟨wr.heap.size, 1, none⟩ = some (.int .i64 x.at_) := X3.cell 1
            have y2 : w3.drew.cell? ⟨wr.heap.size, 2, none⟩ = some (.int .u8 x.b) := X3.cell 2
            have y3 : w3.drew.cell? ⟨wr.heap.size, 3, none⟩ = some (.slice x.kA x.kn x.kc) := X3.cell 3
            have HB3 := Lib.hid (HBR.out.trans (B3.mono (by omega)))
            have HP2 := Lib.hid ((HP.out.on (B3.mono (by simp))).drewN 1)
            have HXO3 : Hid (DeedOk (w3.drewN 1) w.heap.size x) := ⟨HXO.out.kept.below (show Below w.heap.size w (w3.drewN 1) from HB3.out.drew), HXO.out.at_, HXO.out.kind, HXO.out.b⟩
            clear B3 X3
            refine wp_region_held_drew (S := fun _ => True) (by kernel_rfl) trivial (fun hHeld => ?_)
            refine held_take 0 55 (.pointer (some ⟨g, 0, none⟩)) (by simp only [List.getElem?_toArray, List.getElem?_cons_zero]; rfl) rfl rfl (by kernel_rfl) (by kernel_rfl) (by kernel_rfl) (fun _ _ _ _ h => h) (by intro W hW; go_simp) hHeld ?_
            simp only [List.setIfInBounds_toArray, List.set_cons_zero, List.set_cons_succ]
            refine held_take 1 56 (.pointer (some ⟨h, 0, none⟩)) (by simp only [List.getElem?_toArray, List.getElem?_cons_succ, List.getElem?_cons_zero]; rfl) rfl rfl (by kernel_rfl) (by kernel_rfl) (by kernel_rfl) (fun _ _ _ _ h => h) (by intro W hW; go_simp) hHeld ?_
            simp only [List.setIfInBounds_toArray, List.set_cons_zero, List.set_cons_succ]
            refine held_one 2 57 (deedV x) (by simp only [List.getElem?_toArray, List.getElem?_cons_succ, List.getElem?_cons_zero]; rfl) rfl rfl (by kernel_rfl) (by unfold deedV; go_simp) hHeld ?_
            simp only [List.setIfInBounds_toArray, List.set_cons_zero, List.set_cons_succ]
            refine held_call 3 58 20 #[.pointer (some ⟨g, 0, none⟩), .pointer (some ⟨h, 0, none⟩), deedV x] (by simp only [List.getElem?_toArray, List.getElem?_cons_succ, List.getElem?_cons_zero]; rfl) rfl rfl (by kernel_rfl) (by intro W; go_simp) ?_
            refine (do_any _ _ _ _ _ _ _ _ _ _ _ _ HP2.out HXO3.out HST.out (by omega)).mono ?_
            rintro e w5 ⟨rfl, p5, B5⟩
            refine ⟨_, rfl, trivial, held_more (S' := fun W => Below w5.heap.size w5 W) (fun _ _ => trivial) ?_⟩
            have hF : Hid (∀ W, Below w5.heap.size w5 W → Pair W w.heap.size M g b l h sh la wa (didS s x)) := fun W hW => p5.on hW
            have hHeld : Below w5.heap.size w5 w5 := Below.refl _ _
            simp only [List.setIfInBounds_toArray, List.set_cons_zero, List.set_cons_succ]
            refine held_take 4 59 (.bool false) (by simp only [List.getElem?_toArray, List.getElem?_cons_succ, List.getElem?_cons_zero]; rfl) rfl rfl (by kernel_rfl) (by kernel_rfl) (by kernel_rfl) (fun _ _ _ _ h => h) (by intro W hW; go_simp) hHeld ?_
            simp only [List.setIfInBounds_toArray, List.set_cons_zero, List.set_cons_succ]
            refine held_take 5 60 (.bool false) (by simp only [List.getElem?_toArray, List.getElem?_cons_succ, List.getElem?_cons_zero]; rfl) rfl rfl (by kernel_rfl) (by kernel_rfl) (by kernel_rfl) (fun _ _ _ _ h => h) (by intro W hW; go_simp) hHeld ?_
            simp only [List.setIfInBounds_toArray, List.set_cons_zero, List.set_cons_succ]
            refine held_take 6 61 (.pointer (some ⟨g, 0, none⟩)) (by simp only [List.getElem?_toArray, List.getElem?_cons_succ, List.getElem?_cons_zero]; rfl) rfl rfl (by kernel_rfl) (by kernel_rfl) (by kernel_rfl) (fun _ _ _ _ h => h) (by intro W hW; go_simp) hHeld ?_
            simp only [List.setIfInBounds_toArray, List.set_cons_zero, List.set_cons_succ]
            refine held_take 8 63 (.pointer (some ⟨h, 0, none⟩)) (by simp only [List.getElem?_toArray, List.getElem?_cons_succ, List.getElem?_cons_zero]; rfl) rfl rfl (by kernel_rfl) (by kernel_rfl) (by kernel_rfl) (fun _ _ _ _ h => h) (by intro W hW; go_simp) hHeld ?_
            simp only [List.setIfInBounds_toArray, List.set_cons_zero, List.set_cons_succ]
            refine held_take 9 64 (.pointer (some ⟨h, 0, none⟩)) (by simp only [List.getElem?_toArray, List.getElem?_cons_succ, List.getElem?_cons_zero]; rfl) rfl rfl (by kernel_rfl) (by kernel_rfl) (by kernel_rfl) (fun _ _ _ _ h => h) (by intro W hW; go_simp) hHeld ?_
            simp only [List.setIfInBounds_toArray, List.set_cons_zero, List.set_cons_succ]
            refine held_take 10 65 (.pointer (some ⟨h, 5, none⟩)) (by simp only [List.getElem?_toArray, List.getElem?_cons_succ, List.getElem?_cons_zero]; rfl) rfl rfl (by kernel_rfl) (by kernel_rfl) (by kernel_rfl) (fun _ _ _ _ h => h) (by intro W hW; go_simp) hHeld ?_
            simp only [List.setIfInBounds_toArray, List.set_cons_zero, List.set_cons_succ]
            refine held_take 11 66 (.bool (didS s x).down) (by simp only [List.getElem?_toArray, List.getElem?_cons_succ, List.getElem?_cons_zero]; rfl) rfl rfl (by kernel_rfl) (by kernel_rfl) (by kernel_rfl) (fun _ _ _ _ h => h) (by intro W hW; have q1 := (hF.out W hW).rf.c.2.2.2.2.2; go_simp) hHeld ?_
            simp only [List.setIfInBounds_toArray, List.set_cons_zero, List.set_cons_succ]
            refine held_call 7 62 16 #[.pointer (some ⟨g, 0, none⟩)] (by simp only [List.getElem?_toArray, List.getElem?_cons_succ, List.getElem?_cons_zero]; rfl) rfl rfl (by kernel_rfl) (by intro W; go_simp) ?_
            refine (down_any _ _ _ _ _ (hF.out _ hHeld).dk).mono ?_
            rintro e w' ⟨rfl, rfl⟩
            refine ⟨_, rfl, hHeld, ?_⟩
            simp only [List.setIfInBounds_toArray, List.set_cons_zero, List.set_cons_succ]
            refine held_take 12 67 (.bool false) (by simp only [List.getElem?_toArray, List.getElem?_cons_succ, List.getElem?_cons_zero]; rfl) rfl rfl (by kernel_rfl) (by kernel_rfl) (by kernel_rfl) (fun _ _ _ _ h => h) (by intro W hW; go_simp) hHeld ?_
            simp only [List.setIfInBounds_toArray, List.set_cons_zero, List.set_cons_succ]
            refine held_take 13 68 (.bool false) (by simp only [List.getElem?_toArray, List.getElem?_cons_succ, List.getElem?_cons_zero]; rfl) rfl rfl (by kernel_rfl) (by kernel_rfl) (by kernel_rfl) (fun _ _ _ _ h => h) (by intro W hW; go_simp) hHeld ?_
            simp only [List.setIfInBounds_toArray, List.set_cons_zero, List.set_cons_succ]
            refine held_take 14 69 (.bool false) (by simp only [List.getElem?_toArray, List.getElem?_cons_succ, List.getElem?_cons_zero]; rfl) rfl rfl (by kernel_rfl) (by kernel_rfl) (by kernel_rfl) (fun _ _ _ _ h => h) (by intro W hW; go_simp) hHeld ?_
            simp only [List.setIfInBounds_toArray, List.set_cons_zero, List.set_cons_succ]
            refine held_take 15 70 (.pointer (some ⟨g, 0, none⟩)) (by simp only [List.getElem?_toArray, List.getElem?_cons_succ, List.getElem?_cons_zero]; rfl) rfl rfl (by kernel_rfl) (by kernel_rfl) (by kernel_rfl) (fun _ _ _ _ h => h) (by intro W hW; go_simp) hHeld ?_
            simp only [List.setIfInBounds_toArray, List.set_cons_zero, List.set_cons_succ]
            refine held_take 17 72 (.pointer (some ⟨h, 0, none⟩)) (by simp only [List.getElem?_toArray, List.getElem?_cons_succ, List.getElem?_cons_zero]; rfl) rfl rfl (by kernel_rfl) (by kernel_rfl) (by kernel_rfl) (fun _ _ _ _ h => h) (by intro W hW; go_simp) hHeld ?_
            simp only [List.setIfInBounds_toArray, List.set_cons_zero, List.set_cons_succ]
            refine held_take 18 73 (.pointer (some ⟨h, 0, none⟩)) (by simp only [List.getElem?_toArray, List.getElem?_cons_succ, List.getElem?_cons_zero]; rfl) rfl rfl (by kernel_rfl) (by kernel_rfl) (by kernel_rfl) (fun _ _ _ _ h => h) (by intro W hW; go_simp) hHeld ?_
            simp only [List.setIfInBounds_toArray, List.set_cons_zero, List.set_cons_succ]
            refine held_take 19 74 (.pointer (some ⟨h, 3, none⟩)) (by simp only [List.getElem?_toArray, List.getElem?_cons_succ, List.getElem?_cons_zero]; rfl) rfl rfl (by kernel_rfl) (by kernel_rfl) (by kernel_rfl) (fun _ _ _ _ h => h) (by intro W hW; go_simp) hHeld ?_
            simp only [List.setIfInBounds_toArray, List.set_cons_zero, List.set_cons_succ]
            refine held_take 20 75 (.int .i64 (didS s x).steps) (by simp only [List.getElem?_toArray, List.getElem?_cons_succ, List.getElem?_cons_zero]; rfl) rfl rfl (by kernel_rfl) (by kernel_rfl) (by kernel_rfl) (fun _ _ _ _ h => h) (by intro W hW; have q1 := (hF.out W hW).rf.c.2.2.2.1; go_simp) hHeld ?_
            simp only [List.setIfInBounds_toArray, List.set_cons_zero, List.set_cons_succ]
            refine held_call 16 71 17 #[.pointer (some ⟨g, 0, none⟩)] (by simp only [List.getElem?_toArray, List.getElem?_cons_succ, List.getElem?_cons_zero]; rfl) rfl rfl (by kernel_rfl) (by intro W; go_simp) ?_
            refine (steps_any _ _ _ _ _ (hF.out _ hHeld).dk).mono ?_
            rintro e w' ⟨rfl, rfl⟩
            refine ⟨_, rfl, hHeld, ?_⟩
            simp only [List.setIfInBounds_toArray, List.set_cons_zero, List.set_cons_succ]
            refine held_take 21 76 (.bool false) (by simp only [List.getElem?_toArray, List.getElem?_cons_succ, List.getElem?_cons_zero]; rfl) rfl rfl (by kernel_rfl) (by kernel_rfl) (by kernel_rfl) (fun _ _ _ _ h => h) (by intro W hW; go_simp) hHeld ?_
            simp only [List.setIfInBounds_toArray, List.set_cons_zero, List.set_cons_succ]
            refine held_take 22 77 (.bool false) (by simp only [List.getElem?_toArray, List.getElem?_cons_succ, List.getElem?_cons_zero]; rfl) rfl rfl (by kernel_rfl) (by kernel_rfl) (by kernel_rfl) (fun _ _ _ _ h => h) (by intro W hW; go_simp) hHeld ?_
            simp only [List.setIfInBounds_toArray, List.set_cons_zero, List.set_cons_succ]
            refine wpAnyH_done (by kernel_rfl) ?_ _
            go_wp2
            go_roundw
            case rel =>
              obtain ⟨z1, z2, z3⟩ := did_small (s := s) (x := x)
              have z4 := hst.out
              exact ⟨k + 1, didS s x, by omega, by go_num, hF.out _ hHeld, ⟨by omega, by omega, by omega⟩, HB3.out.drew.trans ((show Below w.heap.size w3.drew w5 from B5).trans (hHeld.mono (by have := (show w3.heap.size ≤ w5.heap.size from B5.size); omega)))⟩
            case measure => simp [intOf]; omega
          · have e : decide (x.kn ≤ 500) = false := by simp; omega
            rw [e] at hlight
            clear e hlg
            go_wp2_with (go_at_call 19; refine hlight.mono ?_; rintro e w3 ⟨rfl, B3⟩)
            go_ret
            exact ⟨rfl, HBR.out.trans (B3.mono (by omega))⟩
        · obtain rfl : k = n1 := by omega
          go_wp2_with (go_at_call 21; refine (same_any _ _ _ _ _ _ _ _ _ _ _ hp (by have := hst.out.2.2; omega)).mono ?_; rintro e w4 ⟨rfl, B4⟩)
          go_ret
          exact ⟨rfl, hbr.trans (B4.mono hbs)⟩
end Go.Proofs.Ytnbaamjdlgojaaa
