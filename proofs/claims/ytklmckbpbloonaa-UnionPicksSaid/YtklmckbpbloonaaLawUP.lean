/- The walk of the law UnionPicks. -/
import Derived.Test.YtklmckbpbloonaaAwakeU
import Derived.Test.YtklmckbpbloonaaUnionG
namespace Go.Proofs.Ytklmckbpbloonaa
open Go.RowKit

set_option maxRecDepth 100000 in
set_option maxHeartbeats 4000000 in
theorem unionPicks_any (Ab Ao At : Option Addr) (nb cb no co nt ct : Nat) (base ours theirs : List Int) (w : World) (hb : RdU w w.heap.size Ab nb cb base) (ho : RdU w w.heap.size Ao no co ours) (ht : RdU w w.heap.size At nt ct theirs) :
    Calls Try.prog 5 #[.slice Ab nb cb, .slice Ao no co, .slice At nt ct] w fun e w' => e = .returned (.bool true) ∧ Below w.heap.size w w' := by
  by_cases s_nb : 60 < nb
  · have s1 : (60 : Int) < nb := by omega
    go_enter Try.func5, Try.ntmps5
    go_wp2_with (first | (go_at_call 27; refine (awake18 _).mono ?_; rintro e w1 ⟨rfl, k1⟩; have hb1 := hb.below k1; have ho1 := ho.below k1; have ht1 := ht.below k1))
    go_ret
    exact ⟨rfl, k1⟩
  have q_nb : decide ((60 : Int) < nb) = false := by simp; omega
  by_cases s_no : 60 < no
  · have s1 : (60 : Int) < no := by omega
    go_enter Try.func5, Try.ntmps5
    go_wp2_with (first | (go_at_call 27; refine (awake18 _).mono ?_; rintro e w1 ⟨rfl, k1⟩; have hb1 := hb.below k1; have ho1 := ho.below k1; have ht1 := ht.below k1))
    go_ret
    exact ⟨rfl, k1⟩
  have q_no : decide ((60 : Int) < no) = false := by simp; omega
  by_cases s_nt : 60 < nt
  · have s1 : (60 : Int) < nt := by omega
    go_enter Try.func5, Try.ntmps5
    go_wp2_with (first | (go_at_call 27; refine (awake18 _).mono ?_; rintro e w1 ⟨rfl, k1⟩; have hb1 := hb.below k1; have ho1 := ho.below k1; have ht1 := ht.below k1))
    go_ret
    exact ⟨rfl, k1⟩
  have q_nt : decide ((60 : Int) < nt) = false := by simp; omega
  cases u1 : unlikeB base
  · have U1 := Lib.hid u1
    clear u1
    go_enter Try.func5, Try.ntmps5
    go_wp2_with (first | (go_at_call 27; refine (awake18 _).mono ?_; rintro e w1 ⟨rfl, k1⟩; have hb1 := hb.below k1; have ho1 := ho.below k1; have ht1 := ht.below k1) | (go_at_call 28; refine (unlike_any _ _ _ _ _ _ (by first | exact hb1 | exact ho1 | exact ht1)).mono ?_; rintro e w' ⟨rfl, rfl⟩; first | rw [U1.out] | rw [U2.out] | rw [U3.out]))
    go_ret
    exact ⟨rfl, k1⟩
  have U1 := Lib.hid u1
  clear u1
  cases u2 : unlikeB ours
  · have U2 := Lib.hid u2
    clear u2
    go_enter Try.func5, Try.ntmps5
    go_wp2_with (first | (go_at_call 27; refine (awake18 _).mono ?_; rintro e w1 ⟨rfl, k1⟩; have hb1 := hb.below k1; have ho1 := ho.below k1; have ht1 := ht.below k1) | (go_at_call 28; refine (unlike_any _ _ _ _ _ _ (by first | exact hb1 | exact ho1 | exact ht1)).mono ?_; rintro e w' ⟨rfl, rfl⟩; first | rw [U1.out] | rw [U2.out] | rw [U3.out]))
    go_ret
    exact ⟨rfl, k1⟩
  have U2 := Lib.hid u2
  clear u2
  cases u3 : unlikeB theirs
  · have U3 := Lib.hid u3
    clear u3
    go_enter Try.func5, Try.ntmps5
    go_wp2_with (first | (go_at_call 27; refine (awake18 _).mono ?_; rintro e w1 ⟨rfl, k1⟩; have hb1 := hb.below k1; have ho1 := ho.below k1; have ht1 := ht.below k1) | (go_at_call 28; refine (unlike_any _ _ _ _ _ _ (by first | exact hb1 | exact ho1 | exact ht1)).mono ?_; rintro e w' ⟨rfl, rfl⟩; first | rw [U1.out] | rw [U2.out] | rw [U3.out]))
    go_ret
    exact ⟨rfl, k1⟩
  have U3 := Lib.hid u3
  clear u3
  go_enter Try.func5, Try.ntmps5
  go_wp2_with (first | (go_at_call 27; refine (awake18 _).mono ?_; rintro e w1 ⟨rfl, k1⟩; have hb1 := hb.below k1; have ho1 := ho.below k1; have ht1 := ht.below k1) | (go_at_call 28; refine (unlike_any _ _ _ _ _ _ (by first | exact hb1 | exact ho1 | exact ht1)).mono ?_; rintro e w' ⟨rfl, rfl⟩; first | rw [U1.out] | rw [U2.out] | rw [U3.out]) | (go_at_call 29; refine (nums_any w.heap.size _ _ _ _ _ _ _ _ _ base ours theirs _ hb1 ho1 ht1 (by omega) (by omega) k1.size).mono ?_; rintro e w2 ⟨r2, A2, c2, rfl, m1, m2⟩))
  have hz0 := k1.size
  have hbw : Below w.heap.size w w2 := k1.trans (m2.mono hz0)
  go_loopw [8, 48] (fun o i wr => ∃ (k : Nat) (r : Option Nat) (A : Option Addr) (c : Nat), k ≤ nb ∧ i = .int .i64 k ∧ o = .slice A (fltN base (pBoth [ours, theirs]) k) c ∧ OwnU wr r A (fltN base (pBoth [ours, theirs]) k) c (fltTo base (pBoth [ours, theirs]) k) ∧ (∀ g, r = some g → w2.heap.size ≤ g) ∧ Below w2.heap.size w2 wr) (fun _ i _ => nb - (intOf i).toNat)
  case atStart => exact ⟨0, none, none, 0, by omega, rfl, by simp [fltN, fltTo], by simpa [fltN, fltTo] using OwnU.nil_ _ _, by simp, Below.refl _ _⟩
  case round =>
    obtain ⟨k, r, A, c, hk, rfl, rfl, hown, hr, hbr⟩ := hrel
    have hbb := hbw.trans (hbr.mono hbw.size)
    have hqb := hb.below hbb
    have hqo := ho.below hbb
    have hqt := ht.below hbb
    have hle := fltN_le base (pBoth [ours, theirs]) k
    by_cases hlt : k < nb
    · obtain ⟨ad, x, rfl, hbl, hx, hxb, hc1⟩ := hqb.at_ hlt
      have HN : Hid (fltN base (pBoth [ours, theirs]) (k + 1) = fltN base (pBoth [ours, theirs]) k + if pBoth [ours, theirs] x then 1 else 0) := fltN_succ hx
      have HT : Hid (fltTo base (pBoth [ours, theirs]) (k + 1) = fltTo base (pBoth [ours, theirs]) k ++ if pBoth [ours, theirs] x then [x] else []) := fltTo_succ hx
      have HO := Lib.hid hown
      clear hx hown
      cases h1 : hasB ours x
      · have H1 := Lib.hid h1
        clear h1
        have g1 := idx_hasnt H1.out
        have g1' : decide (0 ≤ idx ours x) = false := by simp; omega
        go_wp2_with (first | (go_at_call 30; refine (rfind_any w.heap.size _ _ _ _ x _ (by first | exact hqo | exact hqt)).mono ?_; rintro e w' ⟨rfl, rfl⟩))
        go_roundw
        case rel =>
          have hp1 : pBoth [ours, theirs] x = false := by simp [pBoth, H1.out]
          exact ⟨k + 1, r, A, c, by omega, by go_num, by rw [HN.out, hp1]; rfl, by rw [HN.out, HT.out, hp1]; simpa using HO.out, hr, hbr⟩
        case measure => simp [intOf]; omega
      · have H1 := Lib.hid h1
        clear h1
        have g1 := idx_has H1.out
        cases h2 : hasB theirs x
        · have H2 := Lib.hid h2
          clear h2
          have g2 := idx_hasnt H2.out
          have g2' : decide (0 ≤ idx theirs x) = false := by simp; omega
          go_wp2_with (first | (go_at_call 30; refine (rfind_any w.heap.size _ _ _ _ x _ (by first | exact hqo | exact hqt)).mono ?_; rintro e w' ⟨rfl, rfl⟩))
          go_roundw
          case rel =>
            have hp1 : pBoth [ours, theirs] x = false := by simp [pBoth, H1.out, H2.out]
            exact ⟨k + 1, r, A, c, by omega, by go_num, by rw [HN.out, hp1]; rfl, by rw [HN.out, HT.out, hp1]; simpa using HO.out, hr, hbr⟩
          case measure => simp [intOf]; omega
        · have H2 := Lib.hid h2
          clear h2
          have g2 := idx_has H2.out
          go_wp2_with (first | (go_at_call 30; refine (rfind_any w.heap.size _ _ _ _ x _ (by first | exact hqo | exact hqt)).mono ?_; rintro e w' ⟨rfl, rfl⟩) | (at_builtin; refine appU1 rfl (.tmp 62) (.tmp 64) rfl _ r _ _ c (fltTo base (pBoth [ours, theirs]) k) rfl (HO.out.alloc _) wr.heap.size x rfl (Blk.new _ _ _) hxb (by omega) ?_; intro r3 A3 c3 w3 m1 m2 m3))
          go_roundw
          case rel =>
            have hp1 : pBoth [ours, theirs] x = true := by simp [pBoth, H1.out, H2.out]
            have hr3 : ∀ g, r3 = some g → w2.heap.size ≤ g := fun g e => by
              rcases m3 with h3 | h3
              · exact hr g (by rw [← h3, e])
              · have a1 := h3 g e; have a2 := hbr.size; simp only [World.size_alloc] at a1; omega
            exact ⟨k + 1, r3, A3, c3, by omega, by go_num, by rw [HN.out, hp1]; rfl, by rw [HN.out, HT.out, hp1]; exact m1, hr3, (hbr.alloc hbr.size _).grown m2 (by have := hbr.size; simp; omega) (fun g e => hr g e)⟩
          case measure => simp [intOf]; omega
    · obtain rfl : k = nb := by omega
      have EL := Lib.hid hb.len
      have x1 : RdU wr wr.heap.size Ab k cb base := hqb.more hbb.size
      have x2 : RdU wr wr.heap.size Ao no co ours := hqo.more hbb.size
      have x3 : RdU wr wr.heap.size At nt ct theirs := hqt.more hbb.size
      have x4 : RdU wr wr.heap.size A2 (allN base ours theirs) c2 (allL base ours theirs) := m1.rd.on hbr
      have x5 : RdU wr wr.heap.size A (fltN base (pBoth [ours, theirs]) k) c (fltTo base (pBoth [ours, theirs]) k) := hown.rd
      have X0 := below_new wr (.cells #[.slice Ab k cb, .slice Ao no co, .slice At nt ct] 46)
      have Y1 := x1.on X0
      have Y2 := x2.on X0
      have Y3 := x3.on X0
      have Y4 := x4.on X0
      have Y5 := x5.on X0
      have Y6 := Blk.new wr 46 #[.slice Ab k cb, .slice Ao no co, .slice At nt ct]
      have Y7 := hbb.trans (X0.mono hbb.size)
      have Y8 := Y7.size
      have S : Hid (sameB (allL base ours theirs) (allL base ours theirs) = true) := sameB_self _
      clear x1 x2 x3 x4 x5 X0 hown hr hbb hqb hqo hqt hle m1 m2 hbr hbw
      go_wp2_with fail
      refine (pick_any _ _ _ _ _ _ _ _ _ _ base ours theirs _ Y1 Y2 Y3 (by omega) (by omega) (Nat.le_refl _)).mono ?_
      rintro e w3 ⟨r3, A3, c3, rfl, p1, p2⟩
      have Z1 := Y1.on p2
      have Z2 := Y2.on p2
      have Z3 := Y3.on p2
      have Z4 := Y4.on p2
      have Z5 := Y5.on p2
      have Z6 := Y6.on p2
      have Z7 := Y7.trans (p2.mono Y8)
      have Z8 := Z7.size
      clear Y1 Y2 Y3 Y4 Y5 Y6 Y7 Y8 p2
      go_wp2_with fail
      refine (rsame_any _ _ _ _ _ _ _ _ _ _ p1.rd Z4).mono ?_
      rintro e w4 ⟨rfl, q4, rfl⟩
      rw [S.out]
      obtain ⟨z61, z62, z63⟩ := (Z6.drewN q4).c3
      go_wp2_with fail
      refine (all_any _ _ _ _ _ _ _ _ _ _ base ours theirs _ (Z1.drewN q4) (Z2.drewN q4) (Z3.drewN q4) (by omega) (by omega) (Nat.le_refl _)).mono ?_
      rintro e w5 ⟨r5, A5, c5, rfl, p5, p6⟩
      have V1 := (Z1.drewN q4).on p6
      have V2 := (Z2.drewN q4).on p6
      have V3 := (Z3.drewN q4).on p6
      have V4 := (Z4.drewN q4).on p6
      have V5 := (Z5.drewN q4).on p6
      have V7 := (below_drewN Z7 q4).trans (p6.mono Z8)
      have V8 := V7.size
      clear Z1 Z2 Z3 Z4 Z5 Z6 Z7 Z8 z61 z62 z63 p1
      go_wp2_with fail
      refine (rsame_any _ _ _ _ _ _ _ _ _ _ p5.rd V4).mono ?_
      rintro e w6 ⟨rfl, q6, rfl⟩
      rw [S.out]
      clear V4 p5 p6 S
      have X0 := below_new (w5.drewN q6) (.cells #[.slice Ab k cb, .slice Ao no co, .slice At nt ct] 22)
      have Y1 := (V1.drewN q6).on X0
      have Y2 := (V2.drewN q6).on X0
      have Y3 := (V3.drewN q6).on X0
      have Y5 := (V5.drewN q6).on X0
      have Y6 := Blk.new (w5.drewN q6) 22 #[.slice Ab k cb, .slice Ao no co, .slice At nt ct]
      have Y7 := (below_drewN V7 q6).trans (X0.mono V8)
      have Y8 := Y7.size
      have Y9 := RdUU.three (h0 := (Ab, k, cb)) (h1 := (Ao, no, co)) (h2 := (At, nt, ct)) Y6 Y6.lt Y1 Y2 Y3
      have L1 : base.length ≤ 1000000 := by rw [EL.out]; omega
      clear V1 V2 V3 V5 V7 V8 X0 Y2 Y3 Y6
      go_wp2_with fail
      refine (both_any _ _ _ _ base [ours, theirs] _ Y9 L1 (Nat.le_refl _)).mono ?_
      rintro e w7 ⟨r7, A7, c7, rfl, p7, p8⟩
      rw [EL.out] at p7 ⊢
      have V1 := Y1.on p8
      have V5 := Y5.on p8
      have V7 := Y7.trans (p8.mono Y8)
      have V8 := V7.size
      have S : Hid (sameB (fltTo base (pBoth [ours, theirs]) k) (fltTo base (pBoth [ours, theirs]) k) = true) := sameB_self _
      clear Y1 Y5 Y7 Y8 Y9
      go_wp2_with fail
      refine (rsame_any _ _ _ _ _ _ _ _ _ _ p7.rd V5).mono ?_
      rintro e w8 ⟨rfl, q8, rfl⟩
      rw [S.out]
      clear V5 p7 p8 S
      have X0 := below_new (w7.drewN q8) (.cells #[.slice Ab k cb] 22)
      have Y1 := (V1.drewN q8).on X0
      have Y6 := Blk.new (w7.drewN q8) 22 #[.slice Ab k cb]
      have Y7 := (below_drewN V7 q8).trans (X0.mono V8)
      have Y8 := Y7.size
      have Y9 := RdUU.one (h0 := (Ab, k, cb)) Y6 Y6.lt Y1
      have E1 : fltTo base (pBoth []) base.length = base := both_full base
      have E2 : fltN base (pBoth []) base.length = base.length := bothn_full base
      have F1 := Lib.hid E1
      have F2 := Lib.hid E2
      clear V1 V7 V8 X0 Y6 E1 E2
      go_wp2_with fail
      refine (both_any _ _ _ _ base [] _ Y9 L1 (Nat.le_refl _)).mono ?_
      rintro e w9 ⟨r9, A9, c9, rfl, p9, p10⟩
      rw [F1.out, F2.out, EL.out] at p9
      rw [F2.out, EL.out]
      have V1 := Y1.on p10
      have V7 := Y7.trans (p10.mono Y8)
      have S : Hid (sameB base base = true) := sameB_self _
      clear Y1 Y7 Y8 Y9 L1 F1 F2
      go_wp2_with fail
      refine (rsame_any _ _ _ _ _ _ _ _ _ _ p9.rd V1).mono ?_
      rintro e w10 ⟨rfl, q10, rfl⟩
      rw [S.out]
      go_wp2_with fail
      refine (both_none _).mono ?_
      rintro e w11 ⟨rfl, rfl⟩
      go_wp2_with fail
      go_ret
      exact ⟨rfl, below_drewN V7 q10⟩
end Go.Proofs.Ytklmckbpbloonaa
