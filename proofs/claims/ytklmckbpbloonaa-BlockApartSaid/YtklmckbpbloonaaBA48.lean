/- Parts of the proof: LawBA. -/
import Derived.Test.YtklmckbpbloonaaBA43
import Derived.Test.YtklmckbpbloonaaBA45
import Derived.Test.YtklmckbpbloonaaBA46
import Derived.Test.YtklmckbpbloonaaBA47
namespace Go.Proofs.Ytklmckbpbloonaa
open Go.RowKit

theorem lensTo_le (ess : List (List Edg)) (k : Nat) : lensTo ess k ≤ lensTo ess ess.length := by
  unfold lensTo
  rw [List.take_length]
  conv => rhs; rw [← List.take_append_drop k ess]
  rw [List.map_append, List.sum_append]
  omega
theorem cpL_nil : cpL (sortL []) = [] := by rw [← makeV_eq]; rfl
set_option maxRecDepth 100000 in
set_option maxHeartbeats 16000000 in
theorem blockApart_any (va : Value) (G : Gph) (w : World) (h : RdG w w.heap.size va G) :
    Calls Try.prog 8 #[va] w fun e w' => e = .returned (.bool true) ∧ Below w.heap.size w w' := by
  obtain ⟨A, n, c, A', n', c', rfl, h1, h2⟩ := h
  obtain ⟨vs, es⟩ := G
  simp only at h1 h2
  have hl2 := h2.len
  have hmm := @run_makeMap Try.prog
  have HL2 := Lib.hid hl2
  have HX0 := Lib.hid (Blk.new w 25 #[.slice A n c, .slice A' n' c'])
  have HB0 := Lib.hid ((Below.refl w.heap.size w).alloc (Nat.le_refl _) (.cells #[.slice A n c, .slice A' n' c'] 25))
  clear hl2
  go_enter Try.func8, Try.ntmps8
  go_wp2_with fail
  refine (awake13 _).mono ?_
  rintro e w1 ⟨rfl, k1⟩
  have hX1 := HX0.out.below k1 HX0.out.lt
  have HX1 := Lib.hid hX1
  have HB1 := Lib.hid (HB0.out.trans (k1.mono HB0.out.size))
  obtain ⟨x0, x1⟩ := hX1.c2
  have hxl := hX1.lt
  clear k1 hX1 HX0 HB0
  go_wp2_with fail
  refine (rcheck_any w.heap.size _ _ _ _ _ _ vs es _ (h1.below HB1.out) (h2.below HB1.out) HB1.out.size).mono ?_
  rintro e w2 ⟨rfl, k2⟩
  have hX2 := HX1.out.below k2 HX1.out.lt
  have HX2 := Lib.hid hX2
  have HB2 := Lib.hid (HB1.out.trans (k2.mono HB1.out.size))
  obtain ⟨x0, x1⟩ := hX2.c2
  have hxl := hX2.lt
  clear k2 hX2 HX1 HB1
  by_cases hgn : ¬ gcheck vs es = 0
  · have hgc' : (gcheck vs es != 0) = true := by simp [hgn]
    clear hgn
    go_wp2_with fail
    go_ret
    exact ⟨rfl, HB2.out⟩
  have hgc : gcheck vs es = 0 := Classical.byContradiction hgn
  clear hgn
  have hgc' : (gcheck vs es != 0) = false := by simp [hgc]
  have HFIT := Lib.hid (gcheck_zero hgc)
  clear hgc
  by_cases h60 : 60 < n'
  · have h60' : (60 : Int) < n' := by omega
    go_wp2_with fail
    go_ret
    exact ⟨rfl, HB2.out⟩
  have h60' : decide ((60 : Int) < n') = false := by simp; omega
  go_wp2_with fail
  refine (blocks_any w.heap.size _ _ _ _ _ _ vs es _ (h1.below HB2.out) (h2.below HB2.out) HB2.out.size HFIT.out).mono ?_
  rintro e w3 ⟨A3, c3, rfl, k3, k4⟩
  have HX3 := Lib.hid (HX2.out.below k4 HX2.out.lt)
  have HB3 := Lib.hid (HB2.out.trans (k4.mono HB2.out.size))
  obtain ⟨BL, hBL⟩ : ∃ BL, blocksL vs es = BL := ⟨_, rfl⟩
  have HBL := Lib.hid hBL
  have HSUM : Hid (lensTo BL BL.length = n') := by show _ = _; rw [← hBL, blocks_sum HFIT.out]; exact HL2.out
  have hblen : BL.length ≤ 60 := by
    rw [← hBL]
    have e1 : (blocksL vs es).length ≤ (ids es).length := by unfold blocksL rootsL; rw [List.length_map]; exact List.length_filter_le _ _
    have e2 : (ids es).length = n' := by unfold ids; rw [List.length_map]; exact HL2.out
    omega
  rw [hBL] at k3
  rw [hBL]
  obtain ⟨nb, hnb⟩ : ∃ nb, BL.length = nb := ⟨_, rfl⟩
  rw [hnb] at k3 hblen HSUM
  rw [hnb]
  have HNB := Lib.hid hnb
  have HRD := Lib.hid k3
  obtain ⟨hbc1, hbc2⟩ := k3.bd
  clear k3 k4 HX2 HB2 hBL hnb x0 x1 hxl h1 h2
  go_wp2_with fail
  -- each block
  go_loopw [4, 5, 36] (fun s4 s5 i wr => ∃ (k : Nat) (ra : Option Nat) (A5 : Option Addr) (c5 : Nat) (gs : List Nat), k ≤ nb ∧ i = .int .i64 k ∧ s4 = .int .i64 (lensTo BL k) ∧ s5 = .slice A5 k c5 ∧ OwnM wr ra A5 k c5 gs ∧ (∀ g, ra = some g → w3.heap.size ≤ g) ∧ SetsAt wr vs es gs ∧ Below w3.heap.size w3 wr) (fun _ _ i _ => nb - (intOf i).toNat)
  case atStart => exact ⟨0, none, none, 0, [], by omega, rfl, rfl, rfl, OwnM.nil_ _ _, by simp, fun j g r hj => by simp at hj, Below.refl _ _⟩
  case round =>
    obtain ⟨k, ra, A5, c5, gs, hk, rfl, rfl, rfl, hown, hra, hsets, hbr⟩ := hrel
    by_cases hlt : k < nb
    · obtain ⟨ad, b, Al, nl, cl, rfl, hbl, hbk, hcell, hrow⟩ := (HRD.out.below hbr).at_ hlt
      obtain ⟨r, hr, hb⟩ := blocks_at (by rw [HBL.out]; exact hbk : (blocksL vs es)[k]? = some b)
      have HR := Lib.hid hr
      have hln := hrow.len
      have HLN : Hid ((blockL vs es r).length = nl) := by show _ = _; rw [← hb]; exact hln
      have HLS : Hid (lensTo BL (k + 1) = lensTo BL k + nl) := by show _ = _; rw [lensTo_succ hbk, hln]
      have hsum : lensTo BL k + nl ≤ 60 := by
        have e1 := lensTo_le BL (k + 1)
        rw [HLS.out, HNB.out, HSUM.out] at e1
        omega
      rw [hb] at hrow
      have HROW := Lib.hid hrow
      obtain ⟨hrb1, hrb2⟩ := hrow.bd
      obtain ⟨wz, rfl⟩ : ∃ wz : World, wz = wr := ⟨_, rfl⟩
      obtain ⟨LK, hLK⟩ : ∃ LK, lensTo BL k = LK := ⟨_, rfl⟩
      rw [hLK] at HLS hsum ⊢
      obtain ⟨gv, hgv⟩ : ∃ gv, wz.heap.size = gv := ⟨_, rfl⟩
      have hM0 := MapOf.made wz .u32 Value.bool
      rw [hgv] at hM0
      have HM0 : Hid (IsSet (wz.alloc (.map #[] 0)) gv .u32 []) := hM0
      have HBW := Lib.hid ((Below.refl wz.heap.size wz).alloc (Nat.le_refl _) (.map #[] 0))
      have HOWN := Lib.hid hown
      have HSETS := Lib.hid hsets
      have HBR := Lib.hid hbr
      have hbs := hbr.size
      clear hbk hr hb hln hrow hown hsets hbr hLK hM0
      go_wp2_with fail
      -- the block's vertices
      go_loopw [47] (fun i wr => ∃ (q : Nat) (ks : List Int), q ≤ nl ∧ i = .int .i64 q ∧ IsSet wr gv .u32 ks ∧ Hid (∀ z, z ∈ ks ↔ onTo (blockL vs es r) q z) ∧ Below gv wz wr) (fun i _ => nl - (intOf i).toNat)
      case atStart => exact ⟨0, [], by omega, rfl, HM0.out, fun z => by simp [onTo_zero], by rw [← hgv]; exact HBW.out⟩
      case round =>
        clear HM0 HBW
        obtain ⟨q, ks, hq, rfl, hM, HK, hB⟩ := hrel
        have hrw := HROW.out.below (hB.mono (by omega))
        by_cases hlt2 : q < nl
        · obtain ⟨ad2, x, rfl, hbl2, hx, hxb, hc1, hc2, hc3⟩ := hrw.at_ hlt2
          have HON : Hid (∀ z, onTo (blockL vs es r) (q + 1) z ↔ onTo (blockL vs es r) q z ∨ z = x.2.1 ∨ z = x.2.2) := onTo_succ hx
          obtain ⟨gx, hgx⟩ : ∃ gx, wr.heap.size = gx := ⟨_, rfl⟩
          have hgvl := hM.lt
          rw [hgx] at hgvl
          have HMX := Lib.hid (show MapOf (wr.alloc (.cells #[.int .u32 x.1, .int .u32 x.2.1, .int .u32 x.2.2] 39)) gv .u32 Value.bool (setM ks) from MapOf.alloc hM (.cells #[.int .u32 x.1, .int .u32 x.2.1, .int .u32 x.2.2] 39))
          have hZ := Blk.new wr 39 #[.int .u32 x.1, .int .u32 x.2.1, .int .u32 x.2.2]
          rw [hgx] at hZ
          have HZX := Lib.hid hZ
          have HBX := Lib.hid (hB.alloc (by omega) (.cells #[.int .u32 x.1, .int .u32 x.2.1, .int .u32 x.2.2] 39))
          clear hx hM hB hrw hZ
          go_wp2_with fail
          refine wp_region_held_drew (S := fun W => Blk W gx 39 #[.int .u32 x.1, .int .u32 x.2.1, .int .u32 x.2.2]) (by kernel_rfl) (HZX.out.drewN 1) (fun hHeld => ?_)
          refine held_take 0 51 (.map (some gv)) (by simp only [List.getElem?_toArray, List.getElem?_cons_zero]; rfl) rfl rfl (by kernel_rfl) (by kernel_rfl) (by kernel_rfl) (fun _ _ _ _ h => h) (by intro W hW; go_simp) hHeld ?_
          simp only [List.setIfInBounds_toArray, List.set_cons_zero, List.set_cons_succ]
          refine held_take 1 52 (.pointer (some ⟨gx, 1, none⟩)) (by simp only [List.getElem?_toArray, List.getElem?_cons_succ, List.getElem?_cons_zero]; rfl) rfl rfl (by kernel_rfl) (by kernel_rfl) (by kernel_rfl) (fun _ _ _ _ h => h) (by intro W hW; go_simp) hHeld ?_
          simp only [List.setIfInBounds_toArray, List.set_cons_zero, List.set_cons_succ]
          refine held_take 2 53 (.int .u32 x.2.1) (by simp only [List.getElem?_toArray, List.getElem?_cons_succ, List.getElem?_cons_zero]; rfl) rfl rfl (by kernel_rfl) (by kernel_rfl) (by kernel_rfl) (fun _ _ _ _ h => h) (by intro W hW; obtain ⟨z1, z2, z3⟩ := hW.c3; go_simp) hHeld ?_
          simp only [List.setIfInBounds_toArray, List.set_cons_zero, List.set_cons_succ]
          refine held_take 3 54 (.map (some gv)) (by simp only [List.getElem?_toArray, List.getElem?_cons_succ, List.getElem?_cons_zero]; rfl) rfl rfl (by kernel_rfl) (by kernel_rfl) (by kernel_rfl) (fun _ _ _ _ h => h) (by intro W hW; go_simp) hHeld ?_
          simp only [List.setIfInBounds_toArray, List.set_cons_zero, List.set_cons_succ]
          refine held_take 4 55 (.pointer (some ⟨gx, 2, none⟩)) (by simp only [List.getElem?_toArray, List.getElem?_cons_succ, List.getElem?_cons_zero]; rfl) rfl rfl (by kernel_rfl) (by kernel_rfl) (by kernel_rfl) (fun _ _ _ _ h => h) (by intro W hW; go_simp) hHeld ?_
          simp only [List.setIfInBounds_toArray, List.set_cons_zero, List.set_cons_succ]
          refine held_take 5 56 (.int .u32 x.2.2) (by simp only [List.getElem?_toArray, List.getElem?_cons_succ, List.getElem?_cons_zero]; rfl) rfl rfl (by kernel_rfl) (by kernel_rfl) (by kernel_rfl) (fun _ _ _ _ h => h) (by intro W hW; obtain ⟨z1, z2, z3⟩ := hW.c3; go_simp) hHeld ?_
          simp only [List.setIfInBounds_toArray, List.set_cons_zero, List.set_cons_succ]
          obtain ⟨w5, hrun5, u1, u2, u3⟩ := (MapOf.drew HMX.out).update Try.underlying60 Try.underlying31 x.2.1 true
          have HRUN5 := Lib.hid hrun5
          rw [mput_setM] at u1
          have HM5 := Lib.hid u1
          have HB5 := Lib.hid (((HBX.out.drew).grown u2 (by have := HBX.out.size; simp at this ⊢; omega) (fun g e => by injection e with e; omega)))
          have HZ5 := Lib.hid ((HZX.out.drewN 1).grown u2 (by intro e; injection e with e; omega))
          obtain ⟨w6, hrun6, v1, v2, v3⟩ := (show MapOf w5 gv .u32 Value.bool (setM (addK ks x.2.1)) from HM5.out).update Try.underlying60 Try.underlying31 x.2.2 true
          have HRUN6 := Lib.hid hrun6
          rw [mput_setM] at v1
          have HM6 := Lib.hid v1
          have HB6 := Lib.hid (HB5.out.grown v2 (by have := HB5.out.size; omega) (fun g e => by injection e with e; omega))
          have HZ6 := Lib.hid (HZ5.out.grown v2 (by intro e; injection e with e; omega))
          clear hrun5 u1 u2 u3 hrun6 v1 v2 v3
          refine held_turn 6 (w' := w5) (by simp only [List.getElem?_toArray, List.getElem?_cons_succ, List.getElem?_cons_zero]; rfl) rfl (by kernel_rfl) (by have z := HRUN5.out; go_simp) HZ5.out ?_
          simp only [List.setIfInBounds_toArray, List.set_cons_zero, List.set_cons_succ, Act.put]
          refine held_turn 7 (w' := w6) (by simp only [List.getElem?_toArray, List.getElem?_cons_succ, List.getElem?_cons_zero]; rfl) rfl (by kernel_rfl) (by have z := HRUN6.out; go_simp) HZ6.out ?_
          simp only [List.setIfInBounds_toArray, List.set_cons_zero, List.set_cons_succ, Act.put]
          refine wpAnyH_done (by kernel_rfl) ?_ _
          go_wp2_with fail
          go_roundw
          case rel => exact ⟨q + 1, addK (addK ks x.2.1) x.2.2, by omega, by go_num, HM6.out, fun z => by rw [mem_add2, HON.out z, HK.out z], HB6.out⟩
          case measure => simp [intOf]; omega
        · obtain rfl : nl = q := by omega
          have HKS : Hid (∀ z, z ∈ ks ↔ onB vs es r z) := fun z => by rw [HK.out z]; exact onTo_all HLN.out z
          have hks64 : ks.length ≤ 64 := by
            refine Nat.le_trans (List.Nodup.length_le_of_subset (IsSet.nodup hM) (l₂ := vs) fun z hz => ?_) HFIT.out.nv
            obtain ⟨x, hx, hxz⟩ := (HKS.out z).1 hz
            obtain ⟨e1, e2⟩ := HFIT.out.ends x (mem_block.1 hx).1
            rcases hxz with h | h <;> rw [← h]
            · exact e1
            · exact e2
          obtain ⟨w4, rfl⟩ : ∃ w4 : World, w4 = wr := ⟨_, rfl⟩
          have HM4 := Lib.hid hM
          have HKN := Lib.hid (IsSet.nodup hM)
          have hB' : Below wz.heap.size wz w4 := by rw [hgv]; exact hB
          have HBZ := Lib.hid hB'
          have HO4 := Lib.hid (HOWN.out.on hB')
          have HS4 := Lib.hid (HSETS.out.on hB')
          have HBW3 := Lib.hid (HBR.out.trans (hB'.mono hbs))
          have hgv4 : gv < w4.heap.size := hM.lt
          have hcap := HOWN.out.1.2.1
          have hcap1 := HOWN.out.1.1
          clear hM hB hB' hrw
          go_wp2_with fail
          -- the blocks ahead
          go_loopw [60] (fun i wr => ∃ j : Nat, j ≤ k ∧ i = .int .i64 j ∧ Below w4.heap.size w4 wr) (fun i _ => k - (intOf i).toNat)
          case atStart => exact ⟨0, by omega, rfl, Below.refl _ _⟩
          case round =>
            obtain ⟨j, hj, rfl, hbj⟩ := hrel
            by_cases hltj : j < k
            · obtain ⟨ad5, g, rfl, hadl, hgj, hcellj⟩ := (HO4.out.on hbj).at_ hltj
              have hrl : (rootsL vs es).length = nb := by rw [← HNB.out, ← HBL.out]; unfold blocksL; rw [List.length_map]
              obtain ⟨r', hr'⟩ : ∃ r', (rootsL vs es)[j]? = some r' := ⟨_, List.getElem?_eq_getElem (by omega)⟩
              obtain ⟨ks', hS', hk'⟩ := HS4.out j g r' hgj hr'
              have hrr : r ≠ r' := fun e => by
                have hnd : (rootsL vs es).Nodup := (show (ids es).Nodup from fit_keys HFIT.out).sublist List.filter_sublist
                have h1 := HR.out
                rw [e] at h1
                obtain ⟨p1, p2⟩ := List.getElem?_eq_some_iff.1 h1
                obtain ⟨p3, p4⟩ := List.getElem?_eq_some_iff.1 hr'
                have := (List.getElem_inj hnd).1 (p2.trans p4.symm)
                omega
              have HTWO : Hid (∀ a ∈ ks, a ∈ ks' → ∀ b ∈ ks, b ∈ ks' → a = b) := fun a ha ha' b hb hb' =>
                block_two HFIT.out hrr ((HKS.out b).1 hb) ((HKS.out a).1 ha) ((hk' b).1 hb') ((hk' a).1 ha')
              have HS' := Lib.hid hS'
              have HMJ := Lib.hid (show MapOf wr gv .u32 Value.bool (setM ks) from MapOf.below HM4.out hbj hgv4)
              have hgl : g < w4.heap.size := MapOf.lt hS'
              obtain ⟨gi, hgi⟩ : ∃ gi, wr.heap.size = gi := ⟨_, rfl⟩
              have hgi4 := hbj.size
              rw [hgi] at hgi4
              have HBJ := Lib.hid hbj
              clear hS' hk' hr' hrr hgj hbj
              go_wp2_with (refine wpList_mrange rfl (.tmp 64) _ 31 4 rfl Try.underlying60 HMJ.out rfl ?_; intro w5 k1 k2 k3)
              rw [mkeys_setM, hgi] at k1
              rw [hgi] at k3
              have HI := Lib.hid k1
              have HB5 := Lib.hid (HBJ.out.grown k2 HBJ.out.size (by intro g hg; cases hg))
              clear k1 k2
              rw [hgi]
              go_frame
              go_loopg [13] (ks.length + 1) (fun m s13 wr2 => ∃ left done : List Int, left.length < m ∧ left.Nodup ∧ Hid ((done ++ left).Perm ks) ∧ s13 = .int .i64 ((done.filter fun z => hasB ks' z).length : Nat) ∧ Iter wr2 gv gi .u32 Value.bool (setM ks) left ∧ Below w4.heap.size w4 wr2)
              case atStart => exact ⟨ks, [], by omega, HKN.out, by show List.Perm _ _; simp, rfl, HI.out, HB5.out⟩
              case round =>
                clear HI HB5
                obtain ⟨left, done, hlm, hln, HPM, rfl, hI, hB⟩ := hrel
                have HI := Lib.hid hI
                have HSO := Lib.hid (MapOf.below HS'.out hB hgl)
                have HB := Lib.hid hB
                have hdl : (done.filter fun z => hasB ks' z).length ≤ 64 := by
                  have e1 := HPM.out.length_eq
                  rw [List.length_append] at e1
                  have e2 := List.length_filter_le (fun z => hasB ks' z) done
                  omega
                have hB4 := hB.size
                clear hI hB
                obtain ⟨cnt, hcnt⟩ : ∃ cnt, (done.filter fun z => hasB ks' z).length = cnt := ⟨_, rfl⟩
                have HCNT := Lib.hid hcnt
                rw [hcnt] at hdl ⊢
                clear hcnt
                have hgne : g ≠ gi := by omega
                go_wp2_with (first
                  | (at_next; refine wpList_mnext rfl (.tmp 65) rfl HI.out rfl (fun h0 => ?_) (fun y v w6 m1 m2 m3 m4 m5 m6 hen => ?_))
                  | (at_lookup; refine wpList_slook rfl (.tmp 70) (.tmp 71) _ 31 4 rfl Try.underlying60 Try.underlying31 zeroBool y (MapOf.grown HSO.out m5 (fun e => hgne (by injection e))) rfl rfl ?_))
                · exfalso
                  have hc : (1 : Int) < cnt := by assumption
                  subst h0
                  have hpk : done.Perm ks := by have := HPM.out; rwa [List.append_nil] at this
                  have := len_one (l := done.filter fun z => hasB ks' z) ((hpk.nodup_iff.2 HKN.out).sublist List.filter_sublist) (fun a ha b hb => by
                    obtain ⟨a1, a2⟩ := List.mem_filter.1 ha
                    obtain ⟨b1, b2⟩ := List.mem_filter.1 hb
                    exact HTWO.out a (hpk.mem_iff.1 a1) (by simpa [hasB] using a2) b (hpk.mem_iff.1 b1) (by simpa [hasB] using b2))
                  rw [HCNT.out] at this
                  omega
                · exact ⟨⟨j + 1, by omega, by go_num, HB.out⟩, by simp [intOf]; omega⟩
                · have hy : hasB ks' y = true := by assumption
                  have hlen2 : (left.erase y).length < left.length := by rw [List.length_erase_of_mem m1]; have := List.length_pos_of_mem m1; omega
                  have hB6 := HB.out.grown m5 hB4 (fun g e => by injection e with e; omega)
                  have hperm : ((done ++ [y]) ++ left.erase y).Perm ks := by
                    rw [List.append_assoc]
                    exact (List.Perm.append_left done (List.perm_cons_erase m1).symm).trans HPM.out
                  have hc : ((done ++ [y]).filter fun z => hasB ks' z).length = cnt + 1 := by rw [List.filter_append, List.length_append, HCNT.out]; simp [hy]
                  go_roundg left.length
                  case rel => exact ⟨left.erase y, done ++ [y], hlen2, m2.erase y, hperm, by rw [hc]; go_num, m4, hB6⟩
                  case measure => exact hlm
                · have hy : hasB ks' y = false := by assumption
                  have hlen2 : (left.erase y).length < left.length := by rw [List.length_erase_of_mem m1]; have := List.length_pos_of_mem m1; omega
                  have hB6 := HB.out.grown m5 hB4 (fun g e => by injection e with e; omega)
                  have hperm : ((done ++ [y]) ++ left.erase y).Perm ks := by
                    rw [List.append_assoc]
                    exact (List.Perm.append_left done (List.perm_cons_erase m1).symm).trans HPM.out
                  have hc : ((done ++ [y]).filter fun z => hasB ks' z).length = cnt := by rw [List.filter_append, List.length_append, HCNT.out]; simp [hy]
                  go_roundg left.length
                  case rel => exact ⟨left.erase y, done ++ [y], hlen2, m2.erase y, hperm, by rw [hc], m4, hB6⟩
                  case measure => exact hlm
            · obtain rfl : k = j := by omega
              obtain ⟨w7, rfl⟩ : ∃ w7 : World, w7 = wr := ⟨_, rfl⟩
              have HO7 := Lib.hid (HO4.out.on hbj)
              have HS7 := Lib.hid (HS4.out.on hbj)
              have hM7 : MapOf w7 gv .u32 Value.bool (setM ks) := MapOf.below HM4.out hbj hgv4
              have HM7 := Lib.hid hM7
              have HBW7 := Lib.hid (HBW3.out.trans (hbj.mono HBW3.out.size))
              have hgv7 := hM7.lt
              have HRW7 := Lib.hid ((HROW.out.below (HBZ.out.mono hbs)).below (hbj.mono HBW3.out.size))
              clear hbj hM7 HO4 HS4 HM4 HBW3 HOWN HSETS HBZ
              go_wp2_with (first
                | (at_builtin; refine appM1 rfl (.tmp 78) (.tmp 80) rfl _ ra A5 _ c5 gs rfl (HO7.out.on ((Below.refl w7.heap.size w7).alloc (Nat.le_refl _) (.cells #[.map (some gv)] 60))) w7.heap.size gv rfl (Blk.new _ _ _) (by omega) ?_; intro r8 A8 c8 w8 q1 q2 q3; have HM8 := Lib.hid (MapOf.grown (MapOf.alloc HM7.out (.cells #[.map (some gv)] 60)) q2 (own_map_ne (HO7.out.on ((Below.refl w7.heap.size w7).alloc (Nat.le_refl _) (.cells #[.map (some gv)] 60))).1 (MapOf.alloc HM7.out (.cells #[.map (some gv)] 60)))))
                | (refine wpList_mrange rfl (.tmp 82) _ 31 4 rfl Try.underlying60 HM8.out rfl ?_; intro w9 k1 k2 k3))
              have HB78 := Lib.hid (((Below.refl w3.heap.size w7).alloc (by have := HBW7.out.size; exact this) (.cells #[.map (some gv)] 60)).grown q2 (by have := HBW7.out.size; simp; omega) hra)
              have HS8 : Hid (SetsAt w8 vs es (gs ++ [gv])) := by
                have hS1 := (HS7.out.on ((Below.refl w7.heap.size w7).alloc (Nat.le_refl _) (.cells #[.map (some gv)] 60))).kept (HO7.out.on ((Below.refl w7.heap.size w7).alloc (Nat.le_refl _) (.cells #[.map (some gv)] 60))).1 q2
                intro j g r' h1 h2
                have hgl : gs.length = k := HO7.out.len
                by_cases hjk : j < k
                · rw [List.getElem?_append_left (by omega)] at h1
                  exact hS1 j g r' h1 h2
                · have hj2 : j = k := by
                    have := (List.getElem?_eq_some_iff.1 h1).1
                    simp at this; omega
                  subst hj2
                  rw [List.getElem?_append_right (by omega), hgl] at h1
                  simp at h1
                  subst h1
                  rw [HR.out] at h2
                  injection h2 with h2
                  subst h2
                  exact ⟨ks, HM8.out, HKS.out⟩
              have HO8 := Lib.hid q1
              have hr8 : ∀ g, r8 = some g → w3.heap.size ≤ g := since_of (w := w7.alloc (.cells #[.map (some gv)] 60)) (w' := w8) (by have := HBW7.out.size; simp; omega) hra q3
              have HB8 := Lib.hid (HBW7.out.trans HB78.out)
              obtain ⟨gi, hgi⟩ : ∃ gi, w8.heap.size = gi := ⟨_, rfl⟩
              rw [mkeys_setM, hgi] at k1
              have hgvi : gv < gi := by rw [← hgi]; exact MapOf.lt HM8.out
              have HI := Lib.hid k1
              have HB9 := Lib.hid ((Below.refl w8.heap.size w8).grown k2 (Nat.le_refl _) (by intro g hg; cases hg))
              have HRW8 := Lib.hid (HRW7.out.below HB78.out)
              clear k1 k2 q1 q2 q3 HB78 HRW7
              rw [hgi]
              go_frame
              -- each vertex of the block
              go_loopg [] (ks.length + 1) (fun m wr2 => ∃ left : List Int, left.length < m ∧ left.Nodup ∧ Hid (∀ z ∈ left, z ∈ ks) ∧ Iter wr2 gv gi .u32 Value.bool (setM ks) left ∧ Below w8.heap.size w8 wr2)
              case atStart => exact ⟨ks, by omega, HKN.out, fun z hz => hz, HI.out, HB9.out⟩
              case round =>
                clear HI HB9
                obtain ⟨left, hlm, hln, HLK, hI, hB⟩ := hrel
                have HI := Lib.hid hI
                have HB := Lib.hid hB
                have hil := hI.lt.1
                clear hI hB
                go_wp2_with (at_next; refine wpList_mnext rfl (.tmp 83) rfl HI.out rfl (fun h0 => ?_) (fun y v w10 m1 m2 m3 m4 m5 m6 hen => ?_))
                · -- all gone through
                  exact ⟨⟨k + 1, r8, A8, c8, gs ++ [gv], by omega, by go_num, by rw [HLS.out]; go_num, rfl, HO8.out.on HB.out, hr8, HS8.out.on HB.out, HB8.out.trans (HB.out.mono HB8.out.size)⟩, by simp [intOf]; omega⟩
                have hyk : y ∈ ks := HLK.out y m1
                have hyon : onB vs es r y := (HKS.out y).1 hyk
                have hlen2 : (left.erase y).length < left.length := by rw [List.length_erase_of_mem m1]; have := List.length_pos_of_mem m1; omega
                have HLK2 : Hid (∀ z ∈ left.erase y, z ∈ ks) := fun z hz => HLK.out z (List.mem_of_mem_erase hz)
                have HB10 := Lib.hid (HB.out.grown m5 (by have := HB.out.size; exact this) (fun g e => by injection e with e; omega))
                have HI10 := Lib.hid m4
                have hn2 := m2.erase y
                have hil10 := m4.lt.1
                clear m1 m2 m3 m4 m5 HB HI hen
                refine (make_any _ none none 0 0 0 0 [] [] _ (OwnU.nil_ w10 none).rd (OwnE.nil_ w10 none).rd (by omega) (by omega) List.nodup_nil (Nat.le_refl _)).mono ?_
                rintro e w11 ⟨r1, A1, c1, r2, A2, c2, es0, rfl, p1, _, _, _, p2, p3, _⟩
                rw [cpL_nil] at p1 ⊢
                simp only [List.length_nil] at p1 ⊢
                obtain ⟨gr, hgr⟩ : ∃ gr, w11.heap.size = gr := ⟨_, rfl⟩
                have hz11 := p2.size
                have HM11 := Lib.hid ((HI10.out.map.below p2 HI10.out.map.lt).alloc (.cells #[.slice A1 0 c1, .slice A2 0 c2] 25))
                have hG := Blk.new w11 25 #[.slice A1 0 c1, .slice A2 0 c2]
                rw [hgr] at hG hz11
                have HG := Lib.hid hG
                have HU := Lib.hid (p1.alloc (.cells #[.slice A1 0 c1, .slice A2 0 c2] 25))
                have HB11 := Lib.hid (p2.alloc p2.size (.cells #[.slice A1 0 c1, .slice A2 0 c2] 25))
                have HR1 : Hid (∀ g, r1 = some g → w10.heap.size ≤ g ∧ g ≠ gr ∧ g ≠ gr + 1) := fun g e => by
                  have a := p3 g e
                  have b := p1.lt g e
                  omega
                clear p1 p2 p3 hG
                go_wp2_with (refine wpList_mrange rfl (.tmp 89) _ 31 4 rfl Try.underlying60 HM11.out rfl ?_; intro w13 k1 k2 k3)
                rw [mkeys_setM] at k1
                simp only [World.size_alloc, hgr] at k1 k3
                have HI6 := Lib.hid k1
                have HG13 := Lib.hid (HG.out.grown k2 (by simp))
                have HU13 := Lib.hid (HU.out.kept k2 (by cases r1 with | none => exact .inl rfl | some g => right; intro e; cases e))
                have HB13 := Lib.hid (HB11.out.grown k2 (by have := HB11.out.size; exact this) (by intro g hg; cases hg))
                clear k1 k2 HM11 HG HU HB11
                rw [show (w11.alloc (.cells #[.slice A1 0 c1, .slice A2 0 c2] 25)).heap.size = gr + 1 by simp [hgr]]
                go_frame
                -- the other vertices
                go_loopg [] (ks.length + 1) (fun m wr3 => ∃ (left2 done2 : List Int) (rr : Option Nat) (Ar : Option Addr) (nr cr : Nat), left2.length < m ∧ left2.Nodup ∧ Hid ((done2 ++ left2).Perm ks) ∧ OwnU wr3 rr Ar nr cr (lessV done2 y) ∧ (∀ g, rr = some g → w10.heap.size ≤ g ∧ g ≠ gr ∧ g ≠ gr + 1) ∧ Blk wr3 gr 25 #[.slice Ar nr cr, .slice A2 0 c2] ∧ Iter wr3 gv (gr + 1) .u32 Value.bool (setM ks) left2 ∧ Below w10.heap.size w10 wr3)
                case atStart => exact ⟨ks, [], r1, A1, 0, c1, by omega, HKN.out, by show List.Perm _ _; simp, HU13.out, HR1.out, HG13.out, HI6.out, HB13.out⟩
                case round =>
                  clear HI6 HG13 HU13 HB13 HR1
                  obtain ⟨left2, done2, rr, Ar, nr, cr, hl2, hn2', HP2, hU, hrr, hG, hI, hB⟩ := hrel
                  have HI := Lib.hid hI
                  have HG := Lib.hid hG
                  have HU := Lib.hid hU
                  have HB := Lib.hid hB
                  have hil6 := hI.lt.1
                  have hgrl := hG.lt
                  have hnr := hU.len
                  have hnr64 : nr ≤ 64 := by
                    have e1 := HP2.out.length_eq
                    rw [List.length_append] at e1
                    have e2 := lessV_len done2 y
                    omega
                  have HZB : Hid (∀ z ∈ left2, 0 ≤ z ∧ z < 4294967296) := fun z hz => by
                    have hzk : z ∈ ks := HP2.out.mem_iff.1 (List.mem_append_right _ hz)
                    obtain ⟨x, hx, hxz⟩ := (HKS.out z).1 hzk
                    obtain ⟨e1, e2⟩ := HFIT.out.ends x (mem_block.1 hx).1
                    have hzv : z ∈ vs := by rcases hxz with h | h <;> rw [← h]; exact e1; exact e2
                    have := HFIT.out.big z hzv
                    omega
                  have HRR := Lib.hid hrr
                  have hgr10 : w10.heap.size ≤ gr := hz11
                  clear hI hG hU hB hrr
                  go_wp2_with (first
                    | (at_next; refine wpList_mnext rfl (.tmp 90) rfl HI.out rfl (fun h0 => ?_) (fun z v2 w14 n1 n2 n3 n4 n5 n6 hen => ?_) <;> try (have hG14 := HG.out.grown n5 (fun e => by injection e with e; omega); obtain ⟨f0, f1⟩ := hG14.c2; have fl := hG14.lt; have hU14 := HU.out.kept n5 (by cases hrr0 : rr with | none => exact .inl rfl | some g => right; intro e; injection e with e; have := (HRR.out g hrr0).2.2; omega); have HG14 := Lib.hid hG14; have HU14 := Lib.hid hU14; clear hG14 hU14))
                    | (at_builtin; refine appU1 rfl (.tmp 99) (.tmp 101) rfl _ rr Ar _ cr (lessV done2 y) rfl (HU14.out.alloc (.cells #[.int .u32 z] 31)) wr.heap.size z rfl (by have := Blk.new w14 31 #[.int .u32 z]; rw [n6] at this; exact this) (HZB.out z n1) (by omega) ?_; intro r3 A4 c4 w15 q1 q2 q3; have hG15 := (HG14.out.alloc (.cells #[.int .u32 z] 31)).grown q2 (fun e => (HRR.out _ e.symm).2.1 rfl); obtain ⟨e0, e1⟩ := hG15.c2; have el := hG15.lt; have ef := hG15.frozen 0; have HG15 := Lib.hid hG15; clear hG15))
                  · -- all gone through
                    subst h0
                    have hpk : done2.Perm ks := by have := HP2.out; rwa [List.append_nil] at this
                    have HPK := Lib.hid hpk
                    clear hpk
                    obtain ⟨w20, rfl⟩ : ∃ w20 : World, w20 = wr := ⟨_, rfl⟩
                    have HRW20 := Lib.hid ((HRW8.out.below (HB10.out.mono HB8.out.size)).below (HB.out.mono (by have a := HB8.out.size; have b := HB10.out.size; omega)))
                    have hnl60 : nl ≤ 60 := by omega
                    go_loopw [18, 106] (fun s18 i wr => ∃ (q : Nat) (rE : Option Nat) (AE : Option Addr) (cE : Nat), q ≤ nl ∧ i = .int .i64 q ∧ s18 = .slice AE (fltEN (blockL vs es r) (offV y) q) cE ∧ OwnE wr rE AE (fltEN (blockL vs es r) (offV y) q) cE (fltE (blockL vs es r) (offV y) q) ∧ (∀ g, rE = some g → w20.heap.size ≤ g) ∧ Below w20.heap.size w20 wr) (fun _ i _ => nl - (intOf i).toNat)
                    case atStart => exact ⟨0, none, none, 0, by omega, rfl, by simp [fltEN, fltE], by simpa [fltEN, fltE] using OwnE.nil_ _ _, by simp, Below.refl _ _⟩
                    case round =>
                      obtain ⟨q, rE, AE, cE, hq, rfl, rfl, hown, hrE, hbE⟩ := hrel
                      have hle := fltEN_le (blockL vs es r) (offV y) q
                      by_cases hltq : q < nl
                      · obtain ⟨ad9, x, rfl, hbl9, hx, hxb, hc1, hc2, hc3⟩ := (HRW20.out.below (hbE.mono (by have a := HB8.out.size; have b := HB10.out.size; have c := HB.out.size; omega))).at_ hltq
                        have HN : Hid (fltEN (blockL vs es r) (offV y) (q + 1) = fltEN (blockL vs es r) (offV y) q + if offV y x then 1 else 0) := fltEN_succ hx
                        have HT : Hid (fltE (blockL vs es r) (offV y) (q + 1) = fltE (blockL vs es r) (offV y) q ++ if offV y x then [x] else []) := fltE_succ hx
                        have HOX := Lib.hid (hown.alloc (.cells #[.int .u32 x.1, .int .u32 x.2.1, .int .u32 x.2.2] 39))
                        have HBX := Lib.hid (hbE.alloc hbE.size (.cells #[.int .u32 x.1, .int .u32 x.2.1, .int .u32 x.2.2] 39))
                        have hbs9 := hbE.size
                        have HRE := Lib.hid hrE
                        clear hx hown hbE hrE
                        cases d1 : (x.2.1 != y)
                        · have D1 := Lib.hid d1
                          go_wp2_with fail
                          go_roundw
                          case rel =>
                            have hp : offV y x = false := by unfold offV; rw [D1.out]; rfl
                            have hN := HN.out
                            have hT := HT.out
                            rw [hp] at hN hT
                            simp only [Bool.false_eq_true, if_false, Nat.add_zero, List.append_nil] at hN hT
                            exact ⟨q + 1, rE, AE, cE, by omega, by go_num, by rw [hN], by rw [hN, hT]; exact HOX.out, HRE.out, HBX.out⟩
                          case measure => simp [intOf]; omega
                        · have D1 := Lib.hid d1
                          cases d2 : (x.2.2 != y)
                          · have D2 := Lib.hid d2
                            go_wp2_with fail
                            go_roundw
                            case rel =>
                              have hp : offV y x = false := by unfold offV; rw [D1.out, D2.out]; rfl
                              have hN := HN.out
                              have hT := HT.out
                              rw [hp] at hN hT
                              simp only [Bool.false_eq_true, if_false, Nat.add_zero, List.append_nil] at hN hT
                              exact ⟨q + 1, rE, AE, cE, by omega, by go_num, by rw [hN], by rw [hN, hT]; exact HOX.out, HRE.out, HBX.out⟩
                            case measure => simp [intOf]; omega
                          · have D2 := Lib.hid d2
                            go_wp2_with (first
                              | (at_builtin; refine appE1 rfl (.tmp 120) (.tmp 122) rfl _ rE AE _ cE (fltE (blockL vs es r) (offV y) q) rfl (HOX.out.alloc (.cells #[.int .u32 x.1, .int .u32 x.2.1, .int .u32 x.2.2] 39)) (wr.heap.size + 1) x rfl (by have := Blk.new (wr.alloc (.cells #[.int .u32 x.1, .int .u32 x.2.1, .int .u32 x.2.2] 39)) 39 #[.int .u32 x.1, .int .u32 x.2.1, .int .u32 x.2.2]; simp only [World.size_alloc] at this; exact this) hxb (by omega) ?_; intro r3 A4 c4 w15 q1 q2 q3))
                            go_roundw
                            case rel =>
                              have hp : offV y x = true := by unfold offV; rw [D1.out, D2.out]; rfl
                              have hr3 : ∀ g, r3 = some g → w20.heap.size ≤ g := since_of (w := (wr.alloc (.cells #[.int .u32 x.1, .int .u32 x.2.1, .int .u32 x.2.2] 39)).alloc (.cells #[.int .u32 x.1, .int .u32 x.2.1, .int .u32 x.2.2] 39)) (w' := w15) (by simp; omega) HRE.out q3
                              have hN := HN.out
                              have hT := HT.out
                              rw [hp] at hN hT
                              simp only [if_true] at hN hT
                              exact ⟨q + 1, r3, A4, c4, by omega, by go_num, by rw [hN], by rw [hN, hT]; exact q1, hr3, (HBX.out.alloc HBX.out.size (.cells #[.int .u32 x.1, .int .u32 x.2.1, .int .u32 x.2.2] 39)).grown q2 (by have := HBX.out.size; simp at this ⊢; omega) HRE.out⟩
                            case measure => simp [intOf]; omega
                      · obtain rfl : nl = q := by omega
                        have HEALL : Hid (fltE (blockL vs es r) (offV y) nl = lessE (blockL vs es r) y) := fltE_all _ _ HLN.out
                        have HELEN : Hid (fltEN (blockL vs es r) (offV y) nl = (lessE (blockL vs es r) y).length) := by show List.length _ = _; rw [HEALL.out]
                        rw [HEALL.out, HELEN.out] at hown
                        rw [HELEN.out]
                        have hG9 := HG.out.below hbE HG.out.lt
                        obtain ⟨x0, x1⟩ := hG9.c2
                        have hgrl9 := hG9.lt
                        have HU9 := Lib.hid (HU.out.below hbE HU.out.lt)
                        have HE9 := Lib.hid hown
                        have HB9 := Lib.hid (HB.out.trans (hbE.mono HB.out.size))
                        have hle9 : (lessE (blockL vs es r) y).length ≤ 60 := by rw [← HELEN.out]; omega
                        clear hown hG9 hbE HG HU HB
                        go_wp2_with fail
                        have HNDE : Hid (((lessE (blockL vs es r) y).map Prod.fst).Nodup) := ((fit_keys HFIT.out).sublist ((List.filter_sublist (l := es)).map Prod.fst)).sublist (List.filter_sublist.map Prod.fst)
                        refine (make_any _ _ _ _ _ _ _ (lessV done2 y) (lessE (blockL vs es r) y) _ HU9.out.rd HE9.out.rd (by omega) (by omega) HNDE.out (Nat.le_refl _)).mono ?_
                        rintro e w21 ⟨s1, B1, d1, s2, B2, d2, es2, rfl, p1, p2, p3, _, p5, _, _⟩
                        have hpart := parts_one HFIT.out hyon (V := cpL (sortL (lessV done2 y))) (E := es2) (cpL_pair (sortL_sorted _)) (fun z => by
                          have e1 : z ∈ cpL (sortL (lessV done2 y)) ↔ z ∈ lessV done2 y := ⟨fun h => mem_sortL.1 (cpL_mem h), fun h => cpL_all (mem_sortL.2 h)⟩
                          rw [e1]
                          unfold lessV
                          rw [List.mem_filter, HPK.out.mem_iff, HKS.out z]
                          simp) p3
                        have HPART := Lib.hid hpart
                        have hvl : (cpL (sortL (lessV done2 y))).length ≤ 1000 := by
                          have e1 := cpL_len (sortL (lessV done2 y))
                          rw [sortL_len] at e1
                          omega
                        have HP1 := Lib.hid p1.rd
                        have HP2' := Lib.hid p2.rd
                        have HB21 := Lib.hid (HB9.out.trans (p5.mono HB9.out.size))
                        clear p1 p2 p3 p5 hpart
                        go_wp2_with fail
                        refine (parts_any _ _ _ _ _ _ _ _ es2 _ HP1.out HP2'.out (by omega) (Nat.le_refl _) (cpL_pair (sortL_sorted _)) HPART.out.1).mono ?_
                        rintro e w22 ⟨s3, B3, d3, rfl, _, p7⟩
                        rw [HPART.out.2]
                        have HB22 := Lib.hid (HB21.out.trans (p7.mono HB21.out.size))
                        clear p7
                        go_wp2_with fail
                        go_roundg left.length
                        case rel => exact ⟨left.erase y, hlen2, hn2, HLK2.out, HI10.out.blocks (HB22.out.block gv (by omega)) (HB22.out.block gi (by omega)), HB10.out.trans (HB22.out.mono HB10.out.size)⟩
                        case measure => exact hlm
                  all_goals
                    have hl3 : (left2.erase z).length < left2.length := by rw [List.length_erase_of_mem n1]; have := List.length_pos_of_mem n1; omega
                    have hB14 := HB.out.grown n5 (by have := HB.out.size; exact this) (fun g e => by injection e with e; have := HB.out.size; omega)
                    have hperm : ((done2 ++ [z]) ++ left2.erase z).Perm ks := by
                      rw [List.append_assoc]
                      exact (List.Perm.append_left done2 (List.perm_cons_erase n1).symm).trans HP2.out
                    first
                      | have hzy : (z != y) = true := by assumption
                        have e2 : lessV (done2 ++ [z]) y = lessV done2 y ++ [z] := by
                          unfold lessV
                          rw [List.filter_append]
                          simp only [bne, Bool.not_eq_true'] at hzy
                          simp [hzy]
                        have hr3 : ∀ g, r3 = some g → w10.heap.size ≤ g ∧ g ≠ gr ∧ g ≠ gr + 1 := fun g e => by
                          rcases q3 with q3 | q3
                          · exact HRR.out g (by rw [← q3, e])
                          · have a := q3 g e
                            simp only [World.size_alloc] at a
                            have b := HB.out.size
                            omega
                        have hI15 := (n4.alloc (.cells #[.int .u32 z] 31)).grown q2 (fun e => by have := (HRR.out _ e.symm).1; omega) (fun e => (HRR.out _ e.symm).2.2 rfl)
                        have hB15 := (hB14.alloc hB14.size (.cells #[.int .u32 z] 31)).grown q2 (by have := hB14.size; simp; omega) (fun g e => (HRR.out g e).1)
                        go_roundg left2.length
                        case rel => exact ⟨left2.erase z, done2 ++ [z], r3, A4, nr + 1, c4, hl3, n2.erase z, hperm, by rw [e2]; exact q1.setCell_far (fun g e => (hr3 g e).2.1) _, hr3, by simpa using HG15.out.set_ 0 (.slice A4 (nr + 1) c4), hI15.blocks (Below.heap_setCell _ _ _ gv (by simp; omega)) (Below.heap_setCell _ _ _ (gr + 1) (by simp)), hB15.setCell (by simp; omega) _⟩
                        case measure => exact hl2
                      | have hzy : (z != y) = false := by assumption
                        have e2 : lessV (done2 ++ [z]) y = lessV done2 y := by
                          unfold lessV
                          rw [List.filter_append]
                          simp only [bne, Bool.not_eq_false'] at hzy
                          simp [hzy]
                        go_roundg left2.length
                        case rel => exact ⟨left2.erase z, done2 ++ [z], rr, Ar, nr, cr, hl3, n2.erase z, hperm, by rw [e2]; exact HU14.out, HRR.out, HG14.out, n4, hB14⟩
                        case measure => exact hl2
    · obtain rfl : nb = k := by omega
      have hX := HX3.out.below hbr HX3.out.lt
      obtain ⟨x0, x1⟩ := hX.c2
      have hxl := hX.lt
      have hss := HSUM.out
      have HBR := Lib.hid hbr
      rw [hss]
      clear hX hbr hown hsets
      go_wp2_with fail
      go_ret
      exact ⟨by simp, HB3.out.trans (HBR.out.mono HB3.out.size)⟩
end Go.Proofs.Ytklmckbpbloonaa
