/- Parts of the proof: LawBC. -/
import Derived.Test.YtklmckbpbloonaaBC43
import Derived.Test.YtklmckbpbloonaaBC49
import Derived.Test.YtklmckbpbloonaaBC50
namespace Go.Proofs.Ytklmckbpbloonaa
open Go.RowKit

set_option maxRecDepth 100000 in
set_option maxHeartbeats 2000000 in
/-- slices.Equal at two rows that read as one. -/
theorem equalS_any (B : Nat) (A A' : Option Addr) (n c n' c' : Nat) (es : List Edg) (w : World) (h : RdE w B A n c es) (h' : RdE w B A' n' c' es) :
    Calls Try.prog 42 #[.slice A n c, .slice A' n' c'] w fun e w' => e = .returned (.bool true) ∧ ∃ q, w' = w.drewN q := by
  have hl := h.len
  have hl' := h'.len
  obtain rfl : n = n' := by omega
  obtain ⟨k1, k2⟩ := h.bd
  obtain ⟨k3, k4⟩ := h'.bd
  have q1 : ((n : Int) != n) = false := by simp
  clear hl hl'
  go_enter Try.func42, Try.ntmps42
  go_wp2_with fail
  go_loopw [13] (fun i wr => ∃ k q : Nat, k ≤ n ∧ i = .int .i64 k ∧ wr = w.drewN q) (fun i _ => n - (intOf i).toNat)
  case atStart => exact ⟨0, 0, by omega, rfl, rfl⟩
  case round =>
    obtain ⟨k, q, hk, rfl, rfl⟩ := hrel
    by_cases hlt : k < n
    · obtain ⟨ad, x, rfl, _, hx, _, hc1, hc2, hc3⟩ := h.at_ hlt
      obtain ⟨ad', y, rfl, _, hy, _, hd1, hd2, hd3⟩ := h'.at_ hlt
      rw [hx] at hy
      injection hy with hy
      subst hy
      have hlt' : (k : Int) < n := by omega
      clear hx
      go_wp2_with fail
      go_quiet (fail)
      go_wp2_with fail
      go_roundw
      case rel => exact ⟨k + 1, _, by omega, by go_num, rfl⟩
      case measure => simp [intOf]; omega
    · obtain rfl : n = k := by omega
      go_wp2_with fail
      go_ret
      exact ⟨rfl, q, rfl⟩
def lightB (vs : List Int) (es : List Edg) : Bool := decide (gcheck vs es = 0) && decide (vs.length ≤ 16) && decide (es.length ≤ 24)
set_option maxRecDepth 100000 in
theorem light_any (B : Nat) (A A' : Option Addr) (n c n' c' : Nat) (vs : List Int) (es : List Edg) (w : World) (h : RdU w B A n c vs) (h' : RdE w B A' n' c' es) (hB : B ≤ w.heap.size) :
    Calls Try.prog 40 #[.agg #[.slice A n c, .slice A' n' c']] w fun e w' => e = .returned (.bool (lightB vs es)) ∧ Below w.heap.size w w' := by
  have HL := Lib.hid h.len
  have HL' := Lib.hid h'.len
  have HB0 := Lib.hid ((Below.refl w.heap.size w).alloc (Nat.le_refl _) (.cells #[.slice A n c, .slice A' n' c'] 25))
  have HX0 := Lib.hid (Blk.new w 25 #[.slice A n c, .slice A' n' c'])
  go_enter Try.func40, Try.ntmps40
  go_wp2_with fail
  refine (rcheck_any B _ _ _ _ _ _ vs es _ (h.below (HB0.out.mono hB)) (h'.below (HB0.out.mono hB)) (by simp; omega)).mono ?_
  rintro e w1 ⟨rfl, k1⟩
  have hX := HX0.out.below k1 HX0.out.lt
  obtain ⟨x0, x1⟩ := hX.c2
  have hxl := hX.lt
  have HB1 := Lib.hid (HB0.out.trans (k1.mono HB0.out.size))
  clear k1 hX HB0 HX0
  by_cases hg : gcheck vs es = 0
  · have hg' : (gcheck vs es == 0) = true := by simp [hg]
    have HG := Lib.hid hg
    clear hg
    by_cases h16 : n ≤ 16
    · have h16' : (n : Int) ≤ 16 := by omega
      by_cases h24 : n' ≤ 24
      · have h24' : (n' : Int) ≤ 24 := by omega
        go_wp2_with fail
        go_ret
        exact ⟨ret_bool (by unfold lightB; rw [HG.out, HL.out, HL'.out]; simp [h16, h24]), HB1.out⟩
      · have h24' : decide ((n' : Int) ≤ 24) = false := by simp; omega
        go_wp2_with fail
        go_ret
        exact ⟨ret_bool (by unfold lightB; rw [HG.out, HL.out, HL'.out]; simp [h24]), HB1.out⟩
    · have h16' : decide ((n : Int) ≤ 16) = false := by simp; omega
      go_wp2_with fail
      go_ret
      exact ⟨ret_bool (by unfold lightB; rw [HG.out, HL.out, HL'.out]; simp [h16]), HB1.out⟩
  · have hg' : (gcheck vs es == 0) = false := by simp [hg]
    have HG := Lib.hid hg
    clear hg
    go_wp2_with fail
    go_ret
    exact ⟨ret_bool (by unfold lightB; simp [HG.out]), HB1.out⟩
theorem light_ok {vs : List Int} {es : List Edg} (h : lightB vs es = true) : Fit vs es := by
  unfold lightB at h
  simp only [Bool.and_eq_true, decide_eq_true_eq] at h
  exact gcheck_zero h.1.1
set_option maxRecDepth 100000 in
set_option maxHeartbeats 8000000 in
theorem blockCuts_any (va : Value) (Gp : Gph) (w : World) (h : RdG w w.heap.size va Gp) :
    Calls Try.prog 9 #[va] w fun e w' => e = .returned (.bool true) ∧ Below w.heap.size w w' := by
  obtain ⟨A, n, c, A', n', c', rfl, h1, h2⟩ := h
  obtain ⟨vs, es⟩ := Gp
  simp only at h1 h2
  have HX0 := Lib.hid (Blk.new w 25 #[.slice A n c, .slice A' n' c'])
  have HB0 := Lib.hid ((Below.refl w.heap.size w).alloc (Nat.le_refl _) (.cells #[.slice A n c, .slice A' n' c'] 25))
  go_enter Try.func9, Try.ntmps9
  go_wp2_with fail
  refine (awake13 _).mono ?_
  rintro e w1 ⟨rfl, k1⟩
  have hX1 := HX0.out.below k1 HX0.out.lt
  have HX1 := Lib.hid hX1
  have HB1 := Lib.hid (HB0.out.trans (k1.mono HB0.out.size))
  obtain ⟨x0, x1⟩ := hX1.c2
  have hxl := hX1.lt
  clear k1 hX1 HX0 HB0
  go_wp2_with fail
  refine (light_any w.heap.size _ _ _ _ _ _ vs es _ (h1.below HB1.out) (h2.below HB1.out) HB1.out.size).mono ?_
  rintro e w2 ⟨rfl, k2⟩
  have HX2 := Lib.hid (HX1.out.below k2 HX1.out.lt)
  have HB2 := Lib.hid (HB1.out.trans (k2.mono HB1.out.size))
  clear k2 HX1 HB1 x0 x1
  cases hlb : lightB vs es
  · go_wp2_with fail
    go_ret
    exact ⟨rfl, HB2.out⟩
  have HFIT := Lib.hid (light_ok hlb)
  clear hlb
  go_wp2_with fail
  refine wp_region_held_drew (S := fun W => Blk W w.heap.size 25 #[.slice A n c, .slice A' n' c'] ∧ Below w.heap.size w W) (by kernel_rfl) ⟨HX2.out.drewN 1, HB2.out.drew⟩ (fun hHeld => ?_)
  refine held_take 0 11 (.agg #[.slice A n c, .slice A' n' c']) (by simp only [List.getElem?_toArray, List.getElem?_cons_zero]; rfl) rfl rfl (by kernel_rfl) (by kernel_rfl) (by kernel_rfl) (fun _ _ _ _ h => h) (by intro W hW; obtain ⟨z0, z1⟩ := hW.1.c2; go_simp) hHeld ?_
  simp only [List.setIfInBounds_toArray, List.set_cons_zero, List.set_cons_succ]
  refine held_take 2 13 (.agg #[.slice A n c, .slice A' n' c']) (by simp only [List.getElem?_toArray, List.getElem?_cons_succ, List.getElem?_cons_zero]; rfl) rfl rfl (by kernel_rfl) (by kernel_rfl) (by kernel_rfl) (fun _ _ _ _ h => h) (by intro W hW; obtain ⟨z0, z1⟩ := hW.1.c2; go_simp) hHeld ?_
  simp only [List.setIfInBounds_toArray, List.set_cons_zero, List.set_cons_succ]
  refine held_call 1 12 38 #[.agg #[.slice A n c, .slice A' n' c']] (by simp only [List.getElem?_toArray, List.getElem?_cons_succ, List.getElem?_cons_zero]; rfl) rfl rfl (by kernel_rfl) (by intro W; go_simp) ?_
  refine (blocks_any w.heap.size _ _ _ _ _ _ vs es _ (h1.below hHeld.2) (h2.below hHeld.2) hHeld.2.size HFIT.out).mono ?_
  rintro e w4 ⟨A3, c3, rfl, k3, k4⟩
  have hHeld : Blk w4 w.heap.size 25 #[.slice A n c, .slice A' n' c'] ∧ Below w.heap.size w w4 := ⟨hHeld.1.below k4 hHeld.1.lt, hHeld.2.trans (k4.mono hHeld.2.size)⟩
  refine ⟨_, rfl, hHeld, ?_⟩
  simp only [List.setIfInBounds_toArray, List.set_cons_zero, List.set_cons_succ]
  refine held_call 3 14 41 #[.agg #[.slice A n c, .slice A' n' c']] (by simp only [List.getElem?_toArray, List.getElem?_cons_succ, List.getElem?_cons_zero]; rfl) rfl rfl (by kernel_rfl) (by intro W; go_simp) ?_
  refine (rblocks_any w.heap.size _ _ _ _ _ _ vs es _ (h1.below hHeld.2) (h2.below hHeld.2) hHeld.2.size HFIT.out).mono ?_
  rintro e w5 ⟨A4, c4, rfl, m3, m4⟩
  have hHeld : Blk w5 w.heap.size 25 #[.slice A n c, .slice A' n' c'] ∧ Below w.heap.size w w5 := ⟨hHeld.1.below m4 hHeld.1.lt, hHeld.2.trans (m4.mono hHeld.2.size)⟩
  have HR1 := Lib.hid ((k3.below m4).more m4.size)
  have HR2 := Lib.hid m3
  refine ⟨_, rfl, hHeld, ?_⟩
  simp only [List.setIfInBounds_toArray, List.set_cons_zero, List.set_cons_succ]
  refine held_take 4 3 (.slice A3 (blocksL vs es).length c3) (by simp only [List.getElem?_toArray, List.getElem?_cons_succ, List.getElem?_cons_zero]; rfl) rfl rfl (by kernel_rfl) (by kernel_rfl) (by kernel_rfl) (fun _ _ _ _ h => h) (by intro W hW; go_simp) hHeld ?_
  simp only [List.setIfInBounds_toArray, List.set_cons_zero, List.set_cons_succ]
  refine held_take 5 4 (.slice A4 (blocksL vs es).length c4) (by simp only [List.getElem?_toArray, List.getElem?_cons_succ, List.getElem?_cons_zero]; rfl) rfl rfl (by kernel_rfl) (by kernel_rfl) (by kernel_rfl) (fun _ _ _ _ h => h) (by intro W hW; go_simp) hHeld ?_
  simp only [List.setIfInBounds_toArray, List.set_cons_zero, List.set_cons_succ]
  refine wpAnyH_done (by kernel_rfl) ?_ _
  have HB5 := Lib.hid hHeld.2
  have hblen : (blocksL vs es).length ≤ 160 := by
    unfold blocksL rootsL
    rw [List.length_map]
    refine Nat.le_trans (List.length_filter_le _ _) ?_
    unfold ids
    rw [List.length_map]; exact HFIT.out.ne
  obtain ⟨BL, hBL⟩ : ∃ BL, blocksL vs es = BL := ⟨_, rfl⟩
  have hr1 := HR1.out
  have hr2 := HR2.out
  rw [hBL] at hr1 hr2 hblen
  rw [hBL]
  obtain ⟨nb, hnb⟩ : ∃ nb, BL.length = nb := ⟨_, rfl⟩
  rw [hnb] at hr1 hr2 hblen
  rw [hnb]
  have HRA := Lib.hid hr1
  have HRB := Lib.hid hr2
  have q1 : ((nb : Int) != nb) = false := by simp
  obtain ⟨kb1, kb2⟩ := hr1.bd
  obtain ⟨kb3, kb4⟩ := hr2.bd
  clear k3 k4 m3 m4 HR1 HR2 hr1 hr2 hBL hnb hHeld h1 h2
  go_wp2_with fail
  go_loopw [22] (fun i wr => ∃ k q : Nat, k ≤ nb ∧ i = .int .i64 k ∧ wr = w5.drewN q) (fun i _ => nb - (intOf i).toNat)
  case atStart => exact ⟨0, 0, by omega, rfl, rfl⟩
  case round =>
    obtain ⟨k, q, hk, rfl, rfl⟩ := hrel
    by_cases hlt : k < nb
    · have hA5 := HRA.out
      have hB5 := HRB.out
      obtain ⟨ad, bx, Ax, nx, cx, rfl, hbl, hbx, hcx, hrx⟩ := hA5.at_ hlt
      obtain ⟨ad', by_, Ay, ny, cy, rfl, hbl', hby, hcy, hry⟩ := hB5.at_ hlt
      rw [hbx] at hby
      injection hby with hby
      subst hby
      have HX := Lib.hid hrx
      have HY := Lib.hid hry
      have hlt' : (k : Int) < nb := by omega
      clear hrx hry hbx hA5 hB5
      go_wp2_with fail
      refine wp_region_held_drew (S := fun W => ∃ q, W = w5.drewN q) (by kernel_rfl) ⟨q + 1, rfl⟩ (fun hHeld => ?_)
      refine held_take 0 25 (.slice (some ad) nb c3) (by simp only [List.getElem?_toArray, List.getElem?_cons_zero]; rfl) rfl rfl (by kernel_rfl) (by kernel_rfl) (by kernel_rfl) (fun _ _ _ _ h => h) (by intro W hW; go_simp) hHeld ?_
      simp only [List.setIfInBounds_toArray, List.set_cons_zero, List.set_cons_succ]
      refine held_take 1 26 (.int .i64 k) (by simp only [List.getElem?_toArray, List.getElem?_cons_succ, List.getElem?_cons_zero]; rfl) rfl rfl (by kernel_rfl) (by kernel_rfl) (by kernel_rfl) (fun _ _ _ _ h => h) (by intro W hW; go_simp) hHeld ?_
      simp only [List.setIfInBounds_toArray, List.set_cons_zero, List.set_cons_succ]
      refine held_take 2 27 (.pointer (some (ad.add k))) (by simp only [List.getElem?_toArray, List.getElem?_cons_succ, List.getElem?_cons_zero]; rfl) rfl rfl (by kernel_rfl) (by kernel_rfl) (by kernel_rfl) (fun _ _ _ _ h => h) (by intro W hW; go_simp) hHeld ?_
      simp only [List.setIfInBounds_toArray, List.set_cons_zero, List.set_cons_succ]
      refine held_take 3 28 (.slice Ax nx cx) (by simp only [List.getElem?_toArray, List.getElem?_cons_succ, List.getElem?_cons_zero]; rfl) rfl rfl (by kernel_rfl) (by kernel_rfl) (by kernel_rfl) (fun _ _ _ _ h => h) (by intro W hW; obtain ⟨q, rfl⟩ := hW; go_simp) hHeld ?_
      simp only [List.setIfInBounds_toArray, List.set_cons_zero, List.set_cons_succ]
      refine held_take 4 29 (.slice (some ad') nb c4) (by simp only [List.getElem?_toArray, List.getElem?_cons_succ, List.getElem?_cons_zero]; rfl) rfl rfl (by kernel_rfl) (by kernel_rfl) (by kernel_rfl) (fun _ _ _ _ h => h) (by intro W hW; go_simp) hHeld ?_
      simp only [List.setIfInBounds_toArray, List.set_cons_zero, List.set_cons_succ]
      refine held_take 5 30 (.int .i64 k) (by simp only [List.getElem?_toArray, List.getElem?_cons_succ, List.getElem?_cons_zero]; rfl) rfl rfl (by kernel_rfl) (by kernel_rfl) (by kernel_rfl) (fun _ _ _ _ h => h) (by intro W hW; go_simp) hHeld ?_
      simp only [List.setIfInBounds_toArray, List.set_cons_zero, List.set_cons_succ]
      refine held_take 6 31 (.pointer (some (ad'.add k))) (by simp only [List.getElem?_toArray, List.getElem?_cons_succ, List.getElem?_cons_zero]; rfl) rfl rfl (by kernel_rfl) (by kernel_rfl) (by kernel_rfl) (fun _ _ _ _ h => h) (by intro W hW; go_simp) hHeld ?_
      simp only [List.setIfInBounds_toArray, List.set_cons_zero, List.set_cons_succ]
      refine held_take 7 32 (.slice Ay ny cy) (by simp only [List.getElem?_toArray, List.getElem?_cons_succ, List.getElem?_cons_zero]; rfl) rfl rfl (by kernel_rfl) (by kernel_rfl) (by kernel_rfl) (fun _ _ _ _ h => h) (by intro W hW; obtain ⟨q, rfl⟩ := hW; go_simp) hHeld ?_
      simp only [List.setIfInBounds_toArray, List.set_cons_zero, List.set_cons_succ]
      refine held_call 8 33 42 #[.slice Ax nx cx, .slice Ay ny cy] (by simp only [List.getElem?_toArray, List.getElem?_cons_succ, List.getElem?_cons_zero]; rfl) rfl rfl (by kernel_rfl) (by intro W; go_simp) ?_
      obtain ⟨qd, hqd⟩ := hHeld
      rw [hqd]
      refine (equalS_any w5.heap.size _ _ _ _ _ _ bx _ (HX.out.drewN _) (HY.out.drewN _)).mono ?_
      rintro e w6 ⟨rfl, q6, rfl⟩
      refine ⟨_, rfl, ⟨_, World.drewN_drewN _ _ _⟩, ?_⟩
      rw [World.drewN_drewN]
      have hHeld : ∃ q, w5.drewN (qd + q6) = w5.drewN q := ⟨_, rfl⟩
      simp only [List.setIfInBounds_toArray, List.set_cons_zero, List.set_cons_succ]
      refine held_take 9 34 (.bool false) (by simp only [List.getElem?_toArray, List.getElem?_cons_succ, List.getElem?_cons_zero]; rfl) rfl rfl (by kernel_rfl) (by kernel_rfl) (by kernel_rfl) (fun _ _ _ _ h => h) (by intro W hW; go_simp) hHeld ?_
      simp only [List.setIfInBounds_toArray, List.set_cons_zero, List.set_cons_succ]
      refine wpAnyH_done (by kernel_rfl) ?_ _
      go_wp2_with fail
      go_roundw
      case rel => exact ⟨k + 1, _, by omega, by go_num, rfl⟩
      case measure => simp [intOf]; omega
    · obtain rfl : nb = k := by omega
      have HB6 := Lib.hid HB5.out
      go_wp2_with fail
      go_ret
      exact ⟨rfl, below_drewN HB5.out q⟩
end Go.Proofs.Ytklmckbpbloonaa
