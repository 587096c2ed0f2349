/- The walk of the law GraphLooks. -/
import Derived.Test.YtklmckbpbloonaaAwake
import Derived.Test.YtklmckbpbloonaaLooksA
import Derived.Test.YtklmckbpbloonaaLegal
import Derived.Test.YtklmckbpbloonaaUnionG
import Derived.Deep.QuietTactic
import Derived.BigQuiet
import Derived.Deep.RegionHeld3
import Derived.Deep.DeepCutAuto
namespace Go.Proofs.Ytklmckbpbloonaa
open Go.RowKit

set_option maxRecDepth 100000 in
set_option maxHeartbeats 8000000 in
theorem graphLooks_any (A A' : Option Addr) (n c n' c' : Nat) (vs : List Int) (es : List Edg) (v id : Int) (odd : Bool) (w : World) (h : RdU w w.heap.size A n c vs) (h' : RdE w w.heap.size A' n' c' es) :
    Calls Try.prog 4 #[.agg #[.slice A n c, .slice A' n' c'], .int .u32 v, .int .u32 id, .bool odd] w fun e w' => e = .returned (.bool true) ∧ Below w.heap.size w w' := by
  obtain ⟨hnc, hc⟩ := h.bd
  obtain ⟨hnc', hc'⟩ := h'.bd
  have HL := Lib.hid h.len
  have HL' := Lib.hid h'.len
  have HX0 := Lib.hid ((Blk.new w 25 #[.slice A n c, .slice A' n' c']).alloc (.cells #[.bool odd] 4))
  have hD := Blk.new (w.alloc (.cells #[.slice A n c, .slice A' n' c'] 25)) 4 #[.bool odd]
  simp only [World.size_alloc] at hD
  have HD0 := Lib.hid hD
  have HB0 := Lib.hid (((Below.refl w.heap.size w).alloc (Nat.le_refl _) (.cells #[.slice A n c, .slice A' n' c'] 25)).alloc (by simp) (.cells #[.bool odd] 4))
  clear hD
  have AW : ∀ W : World, Calls Try.prog 13 #[] W fun e w' => e = .returned (.bool true) ∧ Below W.heap.size W w' := awake9
  by_cases hg : gcheck vs es = 0
  · have hg0 : (gcheck vs es != 0) = false := by simp [hg]
    have HF := Lib.hid (gcheck_zero hg)
    have HGC := Lib.hid hg
    clear hg
    go_enter Try.func4, Try.ntmps4
    go_wp2_with (first
      | (go_at_call 13; refine (AW _).mono ?_; rintro e w1 ⟨rfl, k1⟩; have hX := HX0.out.below k1 HX0.out.lt; have hY := HD0.out.below k1 HD0.out.lt; have hx := hX.c2; have hz := k1.size; simp only [World.size_alloc] at hz; have hB1 := HB0.out.trans (k1.mono (by simp; omega)); have hR := Lib.hid (h.below hB1); have hR' := Lib.hid (h'.below hB1))
      | (go_at_call 15; refine (rcheck_any w.heap.size _ _ _ _ _ _ vs es _ hR.out hR'.out (by omega)).mono ?_; rintro e w2 ⟨rfl, k2⟩; rw [HGC.out]; have hX2 := hX.below k2 hX.lt; have hY2 := hY.below k2 hY.lt; have hx2 := hX2.c2; have hz2 := k2.size; have hB2 := hB1.trans (k2.mono (by omega))))
    have HW2 : Hid (Below w.heap.size w w2 ∧ Blk w2 w.heap.size 25 #[.slice A n c, .slice A' n' c'] ∧ Blk w2 (w.heap.size + 1) 4 #[.bool odd]) := ⟨hB2, hX2, hY2⟩
    have hn64 : n ≤ 64 := by have := HF.out.nv; have := HL.out; omega
    have hn160 : n' ≤ 160 := by have := HF.out.ne; have := HL'.out; omega
    clear hX hY hx hz hB1 hR hR' hX2 hY2 hx2 hz2 hB2 k1 k2 HX0 HD0 HB0 hg0
    go_loopw [9, 10, 29] (fun pl al i wr => ∃ k : Nat, k ≤ n ∧ i = .int .i64 k ∧ pl = .int .i64 (placeTo vs v k) ∧ al = .int .i64 (aloneTo vs es k) ∧ Below w.heap.size w wr ∧ Blk wr w.heap.size 25 #[.slice A n c, .slice A' n' c'] ∧ Blk wr (w.heap.size + 1) 4 #[.bool odd]) (fun _ _ i _ => n - (intOf i).toNat)
    case atStart => exact ⟨0, by omega, rfl, by simp [placeTo], by simp [aloneTo], HW2.out⟩
    case round =>
      clear HW2
      obtain ⟨k, hk, rfl, rfl, rfl, hbr, hG, hO⟩ := hrel
      have hq := h.below hbr
      have hq' := h'.below hbr
      obtain ⟨hg0, hg1⟩ := hG.c2
      have hal := aloneTo_le vs es k
      by_cases hlt : k < n
      · obtain ⟨ad, x, rfl, hbl, hx, _, hc1⟩ := hq.at_ hlt
        have HS : Hid (aloneTo vs es (k + 1) = aloneTo vs es k + if (endsL es x).isEmpty then 1 else 0) := aloneTo_succ hx
        have HE : Hid (endsTo es x n' = endsL es x) := by show _ = _; rw [← HL'.out, endsTo_all]
        have HPL : Hid (placeTo vs v (k + 1) = if x = v then (k : Int) else placeTo vs v k) := by
          show _ = _
          by_cases hv : x = v
          · rw [if_pos hv]; exact placeTo_hit HF.out.up (by rw [← hv]; exact hx)
          · rw [if_neg hv]; exact placeTo_miss hx hv
        clear hx
        generalize aloneTo vs es k = S at hal HS ⊢
        generalize placeTo vs v k = PL at HPL ⊢
        by_cases hv : x = v
        · have hv1 : (x == v) = true := by simp [hv]
          have HV := Lib.hid hv
          clear hv
          by_cases he : (endsL es x).isEmpty = true
          · have he1 : (((endsTo es x n').length : Int) == 0) = true := by rw [HE.out]; simp at he; simp [he]
            have HEE := Lib.hid he
            clear he
            generalize hT : endsTo es x n' = T at *
            have HT := Lib.hid hT
            clear hT
            go_wp2_with (go_at_call 16; refine (rends_any w.heap.size _ _ _ es _ _ _ hq' (by omega) hbr.size).mono ?_; rintro e w3 ⟨r3, A3, c3, rfl, m1, m2, m3⟩; rw [HT.out] at m1 ⊢)
            go_roundw
            case rel => exact ⟨k + 1, by omega, by go_num, by rw [HPL.out, if_pos HV.out], by rw [HS.out, if_pos HEE.out]; go_num, hbr.trans (m2.mono hbr.size), hG.below m2 hG.lt, hO.below m2 hO.lt⟩
            case measure => simp [intOf]; omega
          · have he1 : (((endsTo es x n').length : Int) == 0) = false := by rw [HE.out]; simp at he; simp [he]
            have HEE := Lib.hid he
            clear he
            generalize hT : endsTo es x n' = T at *
            have HT := Lib.hid hT
            clear hT
            go_wp2_with (go_at_call 16; refine (rends_any w.heap.size _ _ _ es _ _ _ hq' (by omega) hbr.size).mono ?_; rintro e w3 ⟨r3, A3, c3, rfl, m1, m2, m3⟩; rw [HT.out] at m1 ⊢)
            go_roundw
            case rel => exact ⟨k + 1, by omega, by go_num, by rw [HPL.out, if_pos HV.out], by rw [HS.out, if_neg HEE.out]; go_num, hbr.trans (m2.mono hbr.size), hG.below m2 hG.lt, hO.below m2 hO.lt⟩
            case measure => simp [intOf]; omega
        · have hv1 : (x == v) = false := by simp [hv]
          have HV := Lib.hid hv
          clear hv
          by_cases he : (endsL es x).isEmpty = true
          · have he1 : (((endsTo es x n').length : Int) == 0) = true := by rw [HE.out]; simp at he; simp [he]
            have HEE := Lib.hid he
            clear he
            generalize hT : endsTo es x n' = T at *
            have HT := Lib.hid hT
            clear hT
            go_wp2_with (go_at_call 16; refine (rends_any w.heap.size _ _ _ es _ _ _ hq' (by omega) hbr.size).mono ?_; rintro e w3 ⟨r3, A3, c3, rfl, m1, m2, m3⟩; rw [HT.out] at m1 ⊢)
            go_roundw
            case rel => exact ⟨k + 1, by omega, by go_num, by rw [HPL.out, if_neg HV.out], by rw [HS.out, if_pos HEE.out]; go_num, hbr.trans (m2.mono hbr.size), hG.below m2 hG.lt, hO.below m2 hO.lt⟩
            case measure => simp [intOf]; omega
          · have he1 : (((endsTo es x n').length : Int) == 0) = false := by rw [HE.out]; simp at he; simp [he]
            have HEE := Lib.hid he
            clear he
            generalize hT : endsTo es x n' = T at *
            have HT := Lib.hid hT
            clear hT
            go_wp2_with (go_at_call 16; refine (rends_any w.heap.size _ _ _ es _ _ _ hq' (by omega) hbr.size).mono ?_; rintro e w3 ⟨r3, A3, c3, rfl, m1, m2, m3⟩; rw [HT.out] at m1 ⊢)
            go_roundw
            case rel => exact ⟨k + 1, by omega, by go_num, by rw [HPL.out, if_neg HV.out], by rw [HS.out, if_neg HEE.out]; go_num, hbr.trans (m2.mono hbr.size), hG.below m2 hG.lt, hO.below m2 hO.lt⟩
            case measure => simp [intOf]; omega
      · obtain rfl : k = n := by omega
        rw [placeTo_all HL.out]
        obtain ⟨wo, rfl⟩ : ∃ wo : World, wo = wr := ⟨_, rfl⟩
        have hb0 := hbr.size
        have hk64 : k ≤ 1000000 := by omega
        have hk160 : n' ≤ 1000000 := by omega
        have HUP := Lib.hid HF.out.up
        have HEN := Lib.hid HF.out.ends
        go_upto_region 15 with fail
        go_cut [13, 14] (fun sa sb wx => ∃ A3 c3 A4 c4, sa = .slice A3 (partsTo vs es k).length c3 ∧ sb = .slice A4 (partsTo vs es k).length c4 ∧ Below w.heap.size w wx ∧ Blk wx w.heap.size 25 #[.slice A k c, .slice A' n' c'] ∧ Blk wx (w.heap.size + 1) 4 #[.bool odd] ∧ RdUU wx wx.heap.size A3 (partsTo vs es k).length c3 (partsTo vs es k) ∧ RdUU wx wx.heap.size A4 (partsTo vs es k).length c4 (partsTo vs es k))
        case first =>
          go_region_law (first
            | (go_simp; go_at_call 17; refine (parts_any w.heap.size _ _ _ _ _ _ vs es _ hq.drew hq'.drew hk64 hb0 HUP.out HEN.out).mono ?_; rintro e w3 ⟨r3, A3, c3, rfl, p1, p2⟩; have hG3 := hG.drew.below p2 hG.lt; have hO3 := hO.drew.below p2 hO.lt; have hg3 := hG3.c2; have hz3 := p2.size; have hb3 := hbr.drew.trans (p2.mono hb0); have hq3 := hq.drew.below (p2.mono hb0); have hq3' := hq'.drew.below (p2.mono hb0); have hbs3 := hb3.size)
            | (go_simp; go_at_call 18; refine (rparts_any w.heap.size _ _ _ _ _ _ vs es _ hq3 hq3' hk64 hbs3 HUP.out HEN.out).mono ?_; rintro e w4 ⟨r4, A4, c4, rfl, u1, u2⟩; have P1 := (p1.below u2 (Nat.le_refl _)).rd; have hG4 := hG3.below u2 hG3.lt; have hO4 := hO3.below u2 hO3.lt; have hg4 := hG4.c2; have hb4 := hb3.trans (u2.mono hbs3); have hbs4 := hb4.size))
          all_goals (go_wp2_with fail; go_meet; exact ⟨_, _, _, _, rfl, rfl, hb4, hG4, hO4, P1, u1.rd⟩)
        case rest =>
          obtain ⟨A3, c3, A4, c4, rfl, rfl, hb4, hG4, hO4, P1, P2⟩ := hcut
          clear hq hq' hg0 hg1 hG hO hbr hb0
          go_wp2_with fail
          go_upto_region 16 with fail
          have hq := Lib.hid (h.below hb4)
          have hq' := Lib.hid (h'.below hb4)
          have hbs4 := hb4.size
          have hg4 := hG4.c2
          go_cut [86] (fun s86 wx => s86 = .bool false ∧ Below wc.heap.size wc wx)
          case first =>
            -- SLOW
            have HSM : Hid (sameB (endsTo es v n') (endsTo es v n') = true) := sameB_self _
            clear P1 P2 hO4
            go_region_held3 (fun W => W.cell? ⟨w.heap.size, 0, none⟩ = some (.slice A k c) ∧ W.cell? ⟨w.heap.size, 1, none⟩ = some (.slice A' n' c')) (first | exact hg11 | exact hg10 | exact hg9 | exact hg8 | exact hg7 | exact hg6 | exact hg5 | exact hg4) (first
              | (go_at_call 19; refine (vert_any w.heap.size _ _ _ vs _ v _ hq.out.drew hbs4).mono ?_; rintro e w5 ⟨rfl, a5⟩; have hG5 := hG4.drew.below a5 hG4.lt; have hg5 := hG5.c2; have hb5 := hb4.drew.trans (a5.mono hbs4); have hbs5 := hb5.size)
              | (go_at_call 20; refine (edge_any w.heap.size _ _ _ es _ id _ (hq'.out.drew.below (a5.mono hbs4)) hbs5).mono ?_; rintro e w6 ⟨rfl, a6⟩; have hG6 := hG5.below a6 hG5.lt; have hg6 := hG6.c2; have hb6 := hb5.trans (a6.mono hbs5); have hbs6 := hb6.size; have hq6' := Lib.hid ((hq'.out.drew.below (a5.mono hbs4)).below (a6.mono hbs5)))
              | (go_at_call 21; refine (rfinde_any w.heap.size _ _ _ es _ id _ hq6'.out hbs6).mono ?_; rintro e w7 ⟨rfl, a7⟩; have hG7 := hG6.below a7 hG6.lt; have hg7 := hG7.c2; have hb7 := hb6.trans (a7.mono hbs6); have hbs7 := hb7.size; have hq7' := Lib.hid (hq6'.out.below (a7.mono hbs6)))
              | (go_at_call 23; refine (ends_any w.heap.size _ _ _ es _ v _ hq7'.out hk160 hbs7).mono ?_; rintro e w8 ⟨r8, A8, c8, rfl, b8, a8, d8⟩; have hG8 := hG7.below a8 hG7.lt; have hg8 := hG8.c2; have hb8 := hb7.trans (a8.mono hbs7); have hbs8 := hb8.size; have hq8' := Lib.hid (hq7'.out.below (a8.mono hbs7)))
              | (go_at_call 16; refine (rends_any w.heap.size _ _ _ es _ v _ hq8'.out hk160 hbs8).mono ?_; rintro e w9 ⟨r9, A9, c9, rfl, b9, a9, d9⟩; have hG9 := hG8.below a9 hG8.lt; have hg9 := hG9.c2; have hb9 := hb8.trans (a9.mono hbs8); have hbs9 := hb9.size; have hq9 := Lib.hid (((hq.out.drew.below (a5.mono hbs4)).below (a6.mono hbs5)).below (a7.mono hbs6)); have hq9' := Lib.hid (hq8'.out.below (a9.mono hbs8)))
              | (go_at_call 22; refine (rsame_any _ _ _ _ _ _ _ _ _ _ (b8.below a9 (fun g e => b8.lt g e)).rd b9.rd).mono ?_; rintro e w10 ⟨rfl, q10, rfl⟩; rw [HSM.out]; have hG10 := hG9.drewN q10; have hg10 := hG10.c2)
              | (go_at_call 24; refine (alone_any w.heap.size _ _ _ _ _ _ vs es _ (((hq9.out.below (a8.mono hbs7)).below (a9.mono hbs8)).drewN q10) (hq9'.out.drewN q10) hk160 hbs9).mono ?_; rintro e w11 ⟨rfl, a11⟩; have hG11 := hG10.below a11 hG10.lt; have hg11 := hG11.c2; have hb11 := (below_drewN hb9 q10).trans (a11.mono hbs9)))
            have z5 : Below wc.heap.size wc w5 := (Below.refl wc.heap.size wc).drew.trans a5
            have z6 := z5.trans (a6.mono z5.size)
            have z7 := z6.trans (a7.mono z6.size)
            have z8 := z7.trans (a8.mono z7.size)
            have z9 := z8.trans (a9.mono z8.size)
            have z10 := below_drewN z9 q10
            have z11 := z10.trans (a11.mono z10.size)
            go_wp2_with fail
            go_meet
            exact ⟨rfl, z11⟩
            -- END
          case rest =>
            obtain ⟨rfl, hbx⟩ := hcut
            have HB := Lib.hid (hb4.trans (hbx.mono hbs4))
            have HG := Lib.hid (hG4.on hbx)
            have HO := Lib.hid (hO4.on hbx)
            have Q1 := (P1.below hbx).more hbx.size
            have Q2 := (P2.below hbx).more hbx.size
            have hPS := parts_sum HL.out HUP.out HEN.out
            have hPL := Q1.len
            clear P1 P2 hbx hG4 hO4 hb4 hbs4 hg4 hq hq'
            generalize partsTo vs es k = PS at Q1 Q2 hPS hPL ⊢
            have hPN : PS.length ≤ 9223372036854775807 := by have := Q1.bd; omega
            have HPS := Lib.hid hPS
            clear hPS hPL
            generalize hPM : PS.length = pm at Q1 Q2 hPN ⊢
            have HPM := Lib.hid hPM
            clear hPM
            obtain ⟨wq, rfl⟩ : ∃ x : World, x = wc := ⟨_, rfl⟩
            go_wp2_with fail
            go_loopw [15, 16, 89] (fun nn ii i wr => ∃ j : Nat, j ≤ pm ∧ i = .int .i64 j ∧ nn = .int .i64 (lenTo PS j) ∧ Dr wq wr) (fun _ _ i _ => pm - (intOf i).toNat)
            case atStart => exact ⟨0, by omega, rfl, by simp [lenTo_zero], Dr.refl _⟩
            case round =>
              obtain ⟨j, hj, rfl, rfl, hdr⟩ := hrel
              by_cases hjt : j < pm
              · obtain ⟨ad, xs, A5, n5, c5, rfl, hbl, hx, hc1, hR⟩ := (hdr.uu Q1).at_ (k := j) hjt
                obtain ⟨ad', ys, A6, n6, c6, rfl, hbl', hy, hc1', hR'⟩ := (hdr.uu Q2).at_ (k := j) hjt
                obtain rfl : xs = ys := by rw [hx] at hy; injection hy
                have HLS : Hid (lenTo PS (j + 1) = lenTo PS j + xs.length) := lenTo_succ hx
                have hle : lenTo PS j + xs.length ≤ 1000000 := by have := lenTo_le PS (j + 1); have e1 := HLS.out; have := HPS.out; omega
                have hl1 := hR.len
                obtain rfl : n5 = n6 := by have := hR'.len; omega
                have HX5 := Lib.hid hl1
                rw [hl1] at hle
                have hn5 := hR.bd
                have i1 : (0 : Int) ≤ (j : Int) := by omega
                have i2 : (j : Int) < pm := by omega
                clear hx hy hl1
                go_wp2_with fail
                go_quiet ((go_at_call 22; exact Calls.quiet_of ((rsame_any _ _ _ _ _ _ _ xs xs _ (hR.drewN _) (hR'.drewN _)).mono (fun e w' h => ⟨by rw [h.1, sameB_self], h.2⟩))))
                go_wp2
                go_roundw
                case rel => exact ⟨j + 1, by omega, by go_num, by rw [HLS.out, HX5.out]; go_num, hdr.drewN _⟩
                case measure => simp [intOf]; omega
              · obtain rfl : j = pm := by omega
                have HB1 := Lib.hid (hdr.below HB.out)
                have HG1 := Lib.hid (hdr.blk HG.out)
                have HO1 := Lib.hid (hdr.blk HO.out)
                obtain ⟨hg0, hg1⟩ := HG1.out.c2
                have e1 : lenTo PS j = k := by rw [← HPM.out, lenTo_all]; exact HPS.out
                rw [e1]
                have hent : ∀ args W, (callFunc 26 args).run Try.prog W = .ok (.enter 26 args) W := enters_of Try.func26 (by kernel_rfl) rfl
                have hz1 := HB1.out.size
                have hku : ∀ e ∈ es, 0 ≤ e.1 ∧ e.1 < 4294967296 := fun e he => (h'.2.2.2.2 e he).1
                have HKU := Lib.hid hku
                clear hku
                clear Q1 Q2 HB HG HO hdr
                go_wp2_with (go_at_call 25; refine (keep_any w.heap.size _ _ _ _ _ _ vs es (oddP odd) 26 #[.pointer (some ⟨w.heap.size + 1, 0, none⟩)] _ (h.below HB1.out) (h'.below HB1.out) hk64 hk160 hz1 hent (fun e W hW he => oddP_any odd (w.heap.size + 1) e (HKU.out e he) W (HO1.out.below hW HO1.out.lt).c1 (HO1.out.below hW HO1.out.lt).lt)).mono ?_; rintro e w9 ⟨r1, A1, c1, r2, A2, c2, rfl, m1, m2, m3⟩; have hG9 := HG1.out.below m3 HG1.out.lt; have hg9 := hG9.c2; have hl9 := hG9.lt)
                have hk1 := m1.len
                have X0 := below_new w9 (.cells #[.slice A1 k c1, .slice A2 (keptN es (oddP odd) n') c2] 25)
                have Y1 := Lib.hid (m2.rd.below X0)
                have Y2 := Lib.hid (Blk.new w9 25 #[.slice A1 k c1, .slice A2 (keptN es (oddP odd) n') c2])
                have Y3 := Lib.hid ((HB1.out.trans (m3.mono hz1)).trans (X0.mono (HB1.out.trans (m3.mono hz1)).size))
                have Y4 := Lib.hid ((HO1.out.on m3).on X0)
                have Y5 := Lib.hid ((HG1.out.on m3).on X0)
                have hKT := keptTo_all es (oddP odd) HL'.out
                have HKT := Lib.hid hKT
                clear hKT m1 m2 m3 X0 hG9 hg9 hl9 HB1 HG1 HO1 HKU hent hg0 hg1 hz1
                generalize hW9 : w9.alloc (.cells #[.slice A1 k c1, .slice A2 (keptN es (oddP odd) n') c2] 25) = wa at Y1 Y2 Y3 Y4 Y5 ⊢
                have hN9 : w9.heap.size < wa.heap.size := Y2.out.lt
                clear hW9
                go_loopw [18, 116] (fun kk i wr => ∃ j : Nat, j ≤ n' ∧ i = .int .i64 j ∧ kk = .int .i64 (keptN es (oddP odd) j) ∧ Below wa.heap.size wa wr) (fun _ i _ => n' - (intOf i).toNat)
                case atStart => exact ⟨0, by omega, rfl, by simp [keptN, keptTo], Below.refl _ _⟩
                case round =>
                  obtain ⟨m, hm, rfl, rfl, hbr⟩ := hrel
                  by_cases hmt : m < n'
                  · have hqe := (h'.below (Y3.out.trans (hbr.mono Y3.out.size)))
                    obtain ⟨ad, x, rfl, hbl, hx, hxb, hc1, hc2, hc3⟩ := hqe.at_ hmt
                    have HN : Hid (keptN es (oddP odd) (m + 1) = keptN es (oddP odd) m + if oddP odd x then 1 else 0) := keptN_succ hx
                    have hxl := hxb.1
                    have hbx2 := hbr.alloc hbr.size (.cells #[.int .u32 x.1, .int .u32 x.2.1, .int .u32 x.2.2] 39)
                    have HBX := Lib.hid hbx2
                    have hO2 := (Y4.out.on hbr).c1
                    have hOl := (Y4.out.on hbr).lt
                    have hle := keptN_le es (oddP odd) m
                    cases hp : (x.1 % 2 == 1) == odd
                    · have HP : Hid (oddP odd x = false) := hp
                      clear hx hbx2 hxb
                      go_wp2_with fail
                      go_roundw
                      case rel => exact ⟨m + 1, by omega, by go_num, by rw [HN.out, HP.out]; go_num, HBX.out⟩
                      case measure => simp [intOf]; omega
                    · have HP : Hid (oddP odd x = true) := hp
                      have hka := kept_at hx HP.out
                      rw [← HKT.out] at hka
                      have hqk := (Y1.out.below (hbr.mono (Nat.le_of_lt hN9))).below (((Below.refl w9.heap.size wr).alloc (by have := hbr.size; omega) (.cells #[.int .u32 x.1, .int .u32 x.2.1, .int .u32 x.2.2] 39)))
                      have hKL := hqk.len
                      have hlt2 : keptN es (oddP odd) m < keptN es (oddP odd) n' := by
                        have := (List.getElem?_eq_some_iff.1 hka).1; omega
                      obtain ⟨ad2, y, rfl, hbl2, hy, _, hd1, hd2, hd3⟩ := hqk.at_ hlt2
                      obtain rfl : x = y := by rw [hka] at hy; injection hy
                      obtain ⟨e20, e21⟩ := ((Y2.out.on hbr).alloc (.cells #[.int .u32 x.1, .int .u32 x.2.1, .int .u32 x.2.2] 39)).c2
                      have hX := (Blk.new wr 39 #[.int .u32 x.1, .int .u32 x.2.1, .int .u32 x.2.2])
                      obtain ⟨x0, x1, x2⟩ := hX.c3
                      have hlt3 : decide (keptN es (oddP odd) n' ≤ keptN es (oddP odd) m) = false := by simp; omega
                      have hi0 : (0 : Int) ≤ (keptN es (oddP odd) m : Int) := by omega
                      have hi1 : (keptN es (oddP odd) m : Int) < (keptN es (oddP odd) n' : Int) := by omega
                      have hNL := keptN_le es (oddP odd) n'
                      have HKL := Lib.hid hKL
                      clear hx hbx2 hxb hka hy hKL
                      go_wp2_with fail
                      go_quiet (fail)
                      go_wp2
                      go_roundw
                      case rel => exact ⟨m + 1, by omega, by go_num, by rw [HN.out, HP.out]; go_num, below_drewN HBX.out _⟩
                      case measure => simp [intOf]; omega
                  · obtain rfl : m = n' := by omega
                    obtain ⟨e50, e51⟩ := (Y5.out.on hbr).c2
                    have e5l := (Y5.out.on hbr).lt
                    obtain ⟨e20, e21⟩ := (Y2.out.on hbr).c2
                    have e2l := (Y2.out.on hbr).lt
                    go_wp2_with fail
                    go_ret
                    exact ⟨rfl, Y3.out.trans (hbr.mono Y3.out.size)⟩
  · have hg0 : (gcheck vs es != 0) = true := by simp [hg]
    clear hg
    go_enter Try.func4, Try.ntmps4
    go_wp2_with (first
      | (go_at_call 13; refine (AW _).mono ?_; rintro e w1 ⟨rfl, k1⟩; have hX := HX0.out.below k1 HX0.out.lt; have hx := hX.c2; have hz := k1.size; simp only [World.size_alloc] at hz; have hB1 := HB0.out.trans (k1.mono (by simp; omega)); have hR := Lib.hid (h.below hB1); have hR' := Lib.hid (h'.below hB1))
      | (go_at_call 15; refine (rcheck_any w.heap.size _ _ _ _ _ _ vs es _ hR.out hR'.out (by omega)).mono ?_; rintro e w2 ⟨rfl, k2⟩; have hB2 := hB1.trans (k2.mono (by omega))))
    go_ret
    exact ⟨rfl, hB2⟩
end Go.Proofs.Ytklmckbpbloonaa
