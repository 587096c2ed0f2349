/- Walks: the references' small functions of the layers 8 and 9. -/
import Derived.Test.YtklmckbpbloonaaGraphA
import Derived.Test.YtklmckbpbloonaaMaps
namespace Go.Proofs.Ytklmckbpbloonaa
open Go.RowKit

theorem hasB_true {vs : List Int} {x : Int} {k : Nat} (h : vs[k]? = some x) : hasB vs x = true := by simp [hasB, List.mem_of_getElem? h]
theorem hasB_false {vs : List Int} {x : Int} (h : ∀ j, j < vs.length → vs[j]? ≠ some x) : hasB vs x = false := by
  simp only [hasB, decide_eq_false_iff_not]
  intro hm
  obtain ⟨j, hj, e⟩ := List.mem_iff_getElem.1 hm
  exact h j hj (by rw [List.getElem?_eq_getElem hj, e])

set_option maxHeartbeats 400000 in
theorem has_any (B : Nat) (A : Option Addr) (n c : Nat) (xs : List Int) (v1 : Value) (x : Int) (w : World) (h : RdU w B A n c xs) (hB : B ≤ w.heap.size) :
    Calls Try.prog 57 #[.agg #[.slice A n c, v1], .int .u32 x] w fun e w' => e = .returned (.bool (hasB xs x)) ∧ Below w.heap.size w w' := by
  have HL := Lib.hid h.len
  obtain ⟨hn, hc⟩ := h.bd
  have HB := Lib.hid ((Below.refl w.heap.size w).alloc (Nat.le_refl _) (.cells #[.slice A n c, v1] 25))
  have hr := h.below (HB.out.mono hB)
  go_enter Try.func57, Try.ntmps57
  go_wp2
  go_loop [10] (fun i => ∃ k : Nat, k ≤ n ∧ i = .int .i64 k ∧ Hid (∀ j, j < k → xs[j]? ≠ some x)) (fun i => n - (intOf i).toNat)
  case atStart => exact ⟨0, Nat.zero_le _, rfl, fun j hj => absurd hj (by omega)⟩
  case round =>
    obtain ⟨k, hk, rfl, HJ⟩ := hrel
    by_cases hlt : k < n
    · obtain ⟨ad, y, rfl, _, hy, _, hcell⟩ := hr.at_ hlt
      have HY := Lib.hid hy
      clear hy
      by_cases he : y = x
      · subst he
        go_wp2
        go_ret
        exact ⟨ret_bool (hasB_true HY.out).symm, HB.out⟩
      · have he' : (y == x) = false := by simpa using he
        clear he
        go_wp2
        go_round
        case rel =>
          refine ⟨k + 1, by omega, by go_num, fun j hj => ?_⟩
          by_cases e : j = k
          · subst e; rw [HY.out]; intro e; simp at e; simp [e] at he'
          · exact HJ.out j (by omega)
        case measure => simp [intOf]; omega
    · go_wp2
      go_ret
      exact ⟨ret_bool (hasB_false fun j hj => HJ.out j (by have := HL.out; omega)).symm, HB.out⟩

set_option maxHeartbeats 400000 in
theorem rfind_any (B : Nat) (A : Option Addr) (n c : Nat) (xs : List Int) (x : Int) (w : World) (h : RdU w B A n c xs) :
    Calls Try.prog 30 #[.slice A n c, .int .u32 x] w fun e w' => e = .returned (.int .i64 (idx xs x)) ∧ w = w' := by
  have HL := Lib.hid h.len
  obtain ⟨hn, hc⟩ := h.bd
  go_enter Try.func30, Try.ntmps30
  go_wp2
  go_loop [9] (fun i => ∃ k : Nat, k ≤ n ∧ i = .int .i64 k ∧ Hid (∀ j, j < k → xs[j]? ≠ some x)) (fun i => n - (intOf i).toNat)
  case atStart => exact ⟨0, Nat.zero_le _, rfl, fun j hj => absurd hj (by omega)⟩
  case round =>
    obtain ⟨k, hk, rfl, HJ⟩ := hrel
    by_cases hlt : k < n
    · obtain ⟨ad, y, rfl, _, hy, _, hcell⟩ := h.at_ hlt
      have HY := Lib.hid hy
      clear hy
      by_cases he : y = x
      · subst he
        go_wp2
        go_ret
        exact ⟨ret_int (idx_hit HJ.out HY.out).symm, rfl⟩
      · have he' : (y == x) = false := by simpa using he
        clear he
        go_wp2
        go_round
        case rel =>
          refine ⟨k + 1, by omega, by go_num, fun j hj => ?_⟩
          by_cases e : j = k
          · subst e; rw [HY.out]; intro e; simp at e; simp [e] at he'
          · exact HJ.out j (by omega)
        case measure => simp [intOf]; omega
    · go_wp2
      go_ret
      exact ⟨ret_int (idx_miss fun j hj => HJ.out j (by have := HL.out; omega)).symm, rfl⟩

/-- Two lists, compared from the front. -/
def sameB (xs ys : List Int) : Bool := decide (xs = ys)
theorem sameB_true {xs ys : List Int} (hl : xs.length = ys.length) (h : ∀ j, j < xs.length → xs[j]? = ys[j]?) : sameB xs ys = true := by
  simp only [sameB, decide_eq_true_eq]
  refine List.ext_getElem? fun j => ?_
  by_cases hj : j < xs.length
  · exact h j hj
  · rw [List.getElem?_eq_none (by omega), List.getElem?_eq_none (by omega)]
theorem sameB_len {xs ys : List Int} (hl : xs.length ≠ ys.length) : sameB xs ys = false := by
  simp only [sameB, decide_eq_false_iff_not]; intro e; exact hl (by rw [e])
theorem sameB_at {xs ys : List Int} {k : Nat} (h : xs[k]? ≠ ys[k]?) : sameB xs ys = false := by
  simp only [sameB, decide_eq_false_iff_not]; intro e; exact h (by rw [e])

set_option maxHeartbeats 400000 in
theorem rsame_any (B : Nat) (A A' : Option Addr) (n c n' c' : Nat) (xs ys : List Int) (w : World) (h : RdU w B A n c xs) (h' : RdU w B A' n' c' ys) :
    Calls Try.prog 22 #[.slice A n c, .slice A' n' c'] w fun e w' => e = .returned (.bool (sameB xs ys)) ∧ ∃ q, w' = w.drewN q := by
  have HL := Lib.hid h.len
  have HL' := Lib.hid h'.len
  obtain ⟨hn, hc⟩ := h.bd
  obtain ⟨hn', hc'⟩ := h'.bd
  by_cases hnn : n = n'
  · have hnn' : ((n : Int) != n') = false := by simp [hnn]
    have HN := Lib.hid hnn
    clear hnn
    go_enter Try.func22, Try.ntmps22
    go_wp2
    go_loopw [13] (fun i wr => ∃ k q : Nat, k ≤ n ∧ i = .int .i64 k ∧ Hid (∀ j, j < k → xs[j]? = ys[j]?) ∧ wr = w.drewN q) (fun i _ => n - (intOf i).toNat)
    case atStart => exact ⟨0, 0, Nat.zero_le _, rfl, fun j hj => absurd hj (by omega), rfl⟩
    case round =>
      obtain ⟨k, q, hk, rfl, HJ, rfl⟩ := hrel
      by_cases hlt : k < n
      · obtain ⟨ad, x, rfl, _, hx, _, hcell⟩ := h.at_ hlt
        obtain ⟨ad', y, rfl, _, hy, _, hcell'⟩ := h'.at_ (k := k) (by have := HN.out; omega)
        have HX := Lib.hid hx
        have HY := Lib.hid hy
        have b1 : (k : Int) < n := by omega
        have b2 : (k : Int) < n' := by have := HN.out; omega
        clear hx hy
        by_cases he : x = y
        · have he' : (x != y) = false := by simp [he]
          have HE := Lib.hid he
          clear he
          go_wp2_with fail
          go_quiet (fail)
          go_wp2
          go_roundw
          case rel =>
            refine ⟨k + 1, _, by omega, by go_num, fun j hj => ?_, rfl⟩
            by_cases e : j = k
            · subst e; rw [HX.out, HY.out, HE.out]
            · exact HJ.out j (by omega)
          case measure => simp [intOf]; omega
        · have he' : (x != y) = true := by simp [he]
          have HE := Lib.hid he
          clear he
          go_wp2_with fail
          go_quiet (fail)
          go_wp2
          go_ret
          exact ⟨ret_bool (sameB_at (k := k) (by rw [HX.out, HY.out]; intro e; injection e with e; exact HE.out e)).symm, _, World.drewN_drewN _ _ _⟩
      · go_wp2
        go_ret
        exact ⟨ret_bool (sameB_true (by have := HL.out; have := HL'.out; have := HN.out; omega) fun j hj => HJ.out j (by have := HL.out; omega)).symm, _, rfl⟩
  · have hnn' : ((n : Int) != n') = true := by rw [bne_iff_ne]; omega
    go_enter Try.func22, Try.ntmps22
    go_wp2
    go_ret
    exact ⟨ret_bool (sameB_len (by have := HL.out; have := HL'.out; omega)).symm, 0, rfl⟩

/-- The reference asks for the order from the second number on: the first is above 0 anyhow. -/
def Last (xs : List Int) (k : Nat) (last : Int) : Prop := (k = 0 → last = 0) ∧ (0 < k → xs[k - 1]? = some last)
theorem Last.next {xs : List Int} {k : Nat} {x : Int} (h : xs[k]? = some x) : Last xs (k + 1) x := ⟨fun e => by omega, fun _ => by simpa using h⟩

set_option maxHeartbeats 1000000 in
theorem rcheck_any (B : Nat) (A A' : Option Addr) (n c n' c' : Nat) (vs : List Int) (es : List Edg) (w : World) (h : RdU w B A n c vs) (h' : RdE w B A' n' c' es) (hB : B ≤ w.heap.size) :
    Calls Try.prog 15 #[.agg #[.slice A n c, .slice A' n' c']] w fun e w' => e = .returned (.int .i64 (gcheck vs es)) ∧ Below w.heap.size w w' := by
  have HL := Lib.hid h.len
  have HL' := Lib.hid h'.len
  obtain ⟨hn, hc⟩ := h.bd
  obtain ⟨hn', hc'⟩ := h'.bd
  have hb : Below w.heap.size w (w.alloc (.cells #[.slice A n c, .slice A' n' c'] 25)) := (Below.refl _ _).alloc (Nat.le_refl _) _
  by_cases h64 : 64 < n
  · go_enter Try.func15, Try.ntmps15
    go_wp2
    go_ret
    exact ⟨ret_int (by unfold gcheck; rw [if_pos (by have := HL.out; omega)]), hb⟩
  by_cases h160 : 160 < n'
  · go_enter Try.func15, Try.ntmps15
    go_wp2
    go_ret
    exact ⟨ret_int (by unfold gcheck; rw [if_pos (by have := HL'.out; omega)]), hb⟩
  have HG : Hid (gcheck vs es = if chkVs 0 vs ≠ 0 then chkVs 0 vs else chkEs vs 0 es) := by
    show gcheck vs es = _
    unfold gcheck; rw [if_neg (by have := HL.out; have := HL'.out; omega)]
  have hr := h.below (hb.mono hB)
  have HB := Lib.hid hb
  clear hb
  go_enter Try.func15, Try.ntmps15
  go_wp2
  go_loop [20] (fun i => ∃ (k : Nat) (last : Int), k ≤ n ∧ i = .int .i64 k ∧ Last vs k last ∧ Hid (chkVs last (vs.drop k) = chkVs 0 vs)) (fun i => n - (intOf i).toNat)
  case atStart => exact ⟨0, 0, Nat.zero_le _, rfl, ⟨fun _ => rfl, fun h => absurd h (by omega)⟩, rfl⟩
  case round =>
    obtain ⟨k, last, hk, rfl, HLA, HJ⟩ := hrel
    by_cases hlt : k < n
    · obtain ⟨ad, y, rfl, hbl, hy, _, hcell⟩ := hr.at_ hlt
      have HY := Lib.hid hy
      clear hy
      have HU : Hid (chkVs 0 vs = if chkN last y ≠ 0 then chkN last y else chkVs y (vs.drop (k + 1))) := by
        show chkVs 0 vs = _
        rw [← HJ.out, drop_at HY.out, chkVs_cons]
      by_cases h1 : y < 1
      · go_wp2
        go_ret
        have e1 : chkN last y = 2 := by unfold chkN; rw [if_pos (by omega)]
        refine ⟨ret_int ?_, HB.out⟩
        rw [HG.out, HU.out, e1]; rfl
      by_cases h2 : 1048576 < y
      · go_wp2
        go_ret
        have e1 : chkN last y = 2 := by unfold chkN; rw [if_pos (by omega)]
        refine ⟨ret_int ?_, HB.out⟩
        rw [HG.out, HU.out, e1]; rfl
      by_cases h0 : (0 : Int) < k
      · obtain ⟨ad', z, hee, _, hz, _, hcellz⟩ := hr.at_ (k := k - 1) (by omega)
        injection hee with hee
        subst hee
        have hzl : z = last := by have := HLA.2 (by omega); rw [hz] at this; injection this
        subst hzl
        clear hz
        have b1 : (k : Int) - 1 < n := by omega
        by_cases h3 : y ≤ z
        · go_wp2
          go_ret
          have e1 : chkN z y = 19 := by unfold chkN; rw [if_neg (by omega), if_pos (by omega)]
          refine ⟨ret_int ?_, HB.out⟩
          rw [HG.out, HU.out, e1]; rfl
        · go_wp2
          go_round
          case rel =>
            refine ⟨k + 1, y, by omega, by go_num, Last.next HY.out, ?_⟩
            have e1 : chkN z y = 0 := by unfold chkN; rw [if_neg (by omega), if_neg (by omega)]
            show chkVs y (vs.drop (k + 1)) = chkVs 0 vs
            rw [HU.out, e1]; rfl
          case measure => simp [intOf]; omega
      · have hl0 : Hid (last = 0) := HLA.1 (by omega)
        go_wp2
        go_round
        case rel =>
          refine ⟨k + 1, y, by omega, by go_num, Last.next HY.out, ?_⟩
          have e1 : chkN last y = 0 := by unfold chkN; have := hl0.out; rw [if_neg (by omega), if_neg (by omega)]
          show chkVs y (vs.drop (k + 1)) = chkVs 0 vs
          rw [HU.out, e1]; rfl
        case measure => simp [intOf]; omega
    · obtain rfl : k = n := by omega
      have HV : Hid (chkVs 0 vs = 0) := by
        show chkVs 0 vs = 0
        rw [← HJ.out, List.drop_of_length_le (by have := HL.out; omega)]; rfl
      have HG2 : Hid (gcheck vs es = chkEs vs 0 es) := by
        show gcheck vs es = chkEs vs 0 es
        rw [HG.out, if_neg (by simp [HV.out])]
      clear HJ HG
      go_wp2
      have hG0 := Blk.new w 25 #[.slice A k c, .slice A' n' c']
      go_loopw [47] (fun i wr => ∃ (j : Nat) (last : Int), j ≤ n' ∧ i = .int .i64 j ∧ Last (es.map (·.1)) j last ∧ Hid (chkEs vs last (es.drop j) = chkEs vs 0 es) ∧
          Below w.heap.size w wr ∧ Blk wr w.heap.size 25 #[.slice A k c, .slice A' n' c']) (fun i _ => n' - (intOf i).toNat)
      case atStart => exact ⟨0, 0, Nat.zero_le _, rfl, ⟨fun _ => rfl, fun h => absurd h (by omega)⟩, rfl, HB.out, hG0⟩
      case round =>
        obtain ⟨j, last, hj, rfl, HLA, HJ, hbr, hG⟩ := hrel
        clear hG0
        have hq := h.below (hbr.mono hB)
        have hq' := h'.below (hbr.mono hB)
        obtain ⟨hg0, hg1⟩ := hG.c2
        have hsz := hG.lt
        by_cases hlt : j < n'
        · obtain ⟨ad, x, rfl, hbl, hx, _, hc1, hc2, hc3⟩ := hq'.at_ hlt
          have HX := Lib.hid hx
          clear hx
          have HU : Hid (chkEs vs 0 es = if chkE vs last x ≠ 0 then chkE vs last x else chkEs vs x.1 (es.drop (j + 1))) := by
            show chkEs vs 0 es = _
            rw [← HJ.out, drop_at HX.out, chkEs_cons]
          have HBX := Lib.hid (hbr.alloc (by omega) (.cells #[.int .u32 x.1, .int .u32 x.2.1, .int .u32 x.2.2] 39))
          have hGx := hG.alloc (.cells #[.int .u32 x.1, .int .u32 x.2.1, .int .u32 x.2.2] 39)
          have hX := Blk.new wr 39 #[.int .u32 x.1, .int .u32 x.2.1, .int .u32 x.2.2]
          have hqx := hq.below (Below.alloc (Below.refl B wr) (by omega) (.cells #[.int .u32 x.1, .int .u32 x.2.1, .int .u32 x.2.2] 39))
          by_cases h1 : x.1 < 1
          · go_wp2
            go_ret
            have e1 : chkE vs last x = 2 := by unfold chkE chkN; rw [if_pos (c := x.1 < 1 ∨ _) (by omega)]; rfl
            refine ⟨ret_int ?_, HBX.out⟩
            rw [HG2.out, HU.out, e1]; rfl
          by_cases h2 : 1048576 < x.1
          · go_wp2
            go_ret
            have e1 : chkE vs last x = 2 := by unfold chkE chkN; rw [if_pos (c := x.1 < 1 ∨ _) (by omega)]; rfl
            refine ⟨ret_int ?_, HBX.out⟩
            rw [HG2.out, HU.out, e1]; rfl
          have hq'x := hq'.below (Below.alloc (Below.refl B wr) (by omega) (.cells #[.int .u32 x.1, .int .u32 x.2.1, .int .u32 x.2.2] 39))
          by_cases h0 : (0 : Int) < j
          · obtain ⟨ad', z, hee, _, hz, _, hcz, _, _⟩ := hq'x.at_ (k := j - 1) (by omega)
            injection hee with hee
            subst hee
            have hzl : z.1 = last := by
              have := HLA.2 (by omega)
              rw [List.getElem?_map, hz] at this
              injection this
            subst hzl
            clear hz
            have h0n : 0 < j := by omega
            have b1 : (j : Int) - 1 < n' := by omega
            by_cases h3 : x.1 ≤ z.1
            · go_wp2_with fail
              go_quiet (fail)
              go_wp2
              go_ret
              have e1 : chkE vs z.1 x = 19 := by unfold chkE chkN; rw [if_neg (c := x.1 < 1 ∨ _) (by omega), if_pos (c := x.1 ≤ z.1) (by omega)]; rfl
              refine ⟨ret_int ?_, below_drewN HBX.out _⟩
              rw [HG2.out, HU.out, e1]; rfl
            · have hz0 : Hid (chkN z.1 x.1 = 0) := by show chkN _ _ = 0; unfold chkN; rw [if_neg (by omega), if_neg (by omega)]
              have h3' : decide (x.1 ≤ z.1) = false := by simpa using h3
              go_wp2_with fail
              go_quiet (fail)
              by_cases hab : x.2.1 = x.2.2
              · have hab' : (x.2.1 == x.2.2) = true := by simpa using hab
                have HAB := Lib.hid hab
                clear hab
                go_wp2
                go_ret
                refine ⟨ret_int ?_, below_drewN HBX.out _⟩
                have e1 : chkE vs z.1 x = 20 := by unfold chkE; rw [if_neg (by simp [hz0.out]), if_pos HAB.out]
                rw [HG2.out, HU.out, e1]; rfl
              · have hab' : (x.2.1 == x.2.2) = false := by simpa using hab
                have HAB := Lib.hid hab
                clear hab
                cases ha : hasB vs x.2.1
                · have HA := Lib.hid ha
                  clear ha
                  go_wp2_with (go_at_call 57; refine (has_any B _ _ _ _ _ _ _ (hqx.drewN _) (by simp; omega)).mono ?_; rintro e w' ⟨rfl, hb'⟩; rw [HA.out])
                  go_ret
                  refine ⟨ret_int ?_, (below_drewN HBX.out _).trans (hb'.mono (by simp; omega))⟩
                  have e1 : chkE vs z.1 x = 21 := by unfold chkE; rw [if_neg (by simp [hz0.out]), if_neg HAB.out, if_pos (.inl (by simpa [hasB] using HA.out))]
                  rw [HG2.out, HU.out, e1]; rfl
                · cases hbn : hasB vs x.2.2
                  all_goals
                    have HA := Lib.hid ha
                    have HBN := Lib.hid hbn
                    clear ha hbn
                    go_wp2_with (first | (go_at_call_of 57 x.2.1; refine (has_any B _ _ _ _ _ _ _ (hqx.drewN _) (by simp; omega)).mono ?_; rintro e w' ⟨rfl, hb'⟩; rw [HA.out]; have hqy := (hqx.drewN _).below (hb'.mono (by simp; omega)); have hGy := (hGx.drewN _).below hb' (by simp; omega); have hXy := (hX.drewN _).below hb' (by simp); obtain ⟨hc4, hc5⟩ := hGy.c2; obtain ⟨hc6, hc7, hc8⟩ := hXy.c3; have hsy := hXy.lt) | (go_at_call_of 57 x.2.2; refine (has_any B _ _ _ _ _ _ _ hqy (by omega)).mono ?_; rintro e w'' ⟨rfl, hb''⟩; rw [HBN.out]))
                  · go_ret
                    refine ⟨ret_int ?_, ((below_drewN HBX.out _).trans (hb'.mono (by simp; omega))).trans (hb''.mono (by omega))⟩
                    have e1 : chkE vs z.1 x = 21 := by unfold chkE; rw [if_neg (by simp [hz0.out]), if_neg HAB.out, if_pos (.inr (by simpa [hasB] using HBN.out))]
                    rw [HG2.out, HU.out, e1]; rfl
                  · go_roundw
                    case rel =>
                      refine ⟨j + 1, x.1, by omega, by go_num, Last.next (by rw [List.getElem?_map, HX.out]; rfl), ?_, ((below_drewN HBX.out _).trans (hb'.mono (by simp; omega))).trans (hb''.mono (by omega)), hGy.below hb'' (by omega)⟩
                      have e1 : chkE vs z.1 x = 0 := by
                        unfold chkE; rw [if_neg (by simp [hz0.out]), if_neg HAB.out, if_neg (fun h => by rcases h with h | h; exact h (by simpa [hasB] using HA.out); exact h (by simpa [hasB] using HBN.out))]
                      show chkEs vs x.1 (es.drop (j + 1)) = chkEs vs 0 es
                      rw [HU.out, e1]; rfl
                    case measure => simp [intOf]; omega
          · have h0' : decide (0 < j) = false := by simpa using h0
            have hz0 : Hid (chkN last x.1 = 0) := by
              show chkN _ _ = 0
              have := HLA.1 (by omega)
              unfold chkN; rw [if_neg (by omega), if_neg (by omega)]
            go_wp2_with fail
            go_quiet (fail)
            by_cases hab : x.2.1 = x.2.2
            · have hab' : (x.2.1 == x.2.2) = true := by simpa using hab
              have HAB := Lib.hid hab
              clear hab
              go_wp2
              go_ret
              refine ⟨ret_int ?_, below_drewN HBX.out _⟩
              have e1 : chkE vs last x = 20 := by unfold chkE; rw [if_neg (by simp [hz0.out]), if_pos HAB.out]
              rw [HG2.out, HU.out, e1]; rfl
            · have hab' : (x.2.1 == x.2.2) = false := by simpa using hab
              have HAB := Lib.hid hab
              clear hab
              cases ha : hasB vs x.2.1
              · have HA := Lib.hid ha
                clear ha
                go_wp2_with (go_at_call 57; refine (has_any B _ _ _ _ _ _ _ (hqx.drewN _) (by simp; omega)).mono ?_; rintro e w' ⟨rfl, hb'⟩; rw [HA.out])
                go_ret
                refine ⟨ret_int ?_, (below_drewN HBX.out _).trans (hb'.mono (by simp; omega))⟩
                have e1 : chkE vs last x = 21 := by unfold chkE; rw [if_neg (by simp [hz0.out]), if_neg HAB.out, if_pos (.inl (by simpa [hasB] using HA.out))]
                rw [HG2.out, HU.out, e1]; rfl
              · cases hbn : hasB vs x.2.2
                all_goals
                  have HA := Lib.hid ha
                  have HBN := Lib.hid hbn
                  clear ha hbn
                  go_wp2_with (first | (go_at_call_of 57 x.2.1; refine (has_any B _ _ _ _ _ _ _ (hqx.drewN _) (by simp; omega)).mono ?_; rintro e w' ⟨rfl, hb'⟩; rw [HA.out]; have hqy := (hqx.drewN _).below (hb'.mono (by simp; omega)); have hGy := (hGx.drewN _).below hb' (by simp; omega); have hXy := (hX.drewN _).below hb' (by simp); obtain ⟨hc4, hc5⟩ := hGy.c2; obtain ⟨hc6, hc7, hc8⟩ := hXy.c3; have hsy := hXy.lt) | (go_at_call_of 57 x.2.2; refine (has_any B _ _ _ _ _ _ _ hqy (by omega)).mono ?_; rintro e w'' ⟨rfl, hb''⟩; rw [HBN.out]))
                · go_ret
                  refine ⟨ret_int ?_, ((below_drewN HBX.out _).trans (hb'.mono (by simp; omega))).trans (hb''.mono (by omega))⟩
                  have e1 : chkE vs last x = 21 := by unfold chkE; rw [if_neg (by simp [hz0.out]), if_neg HAB.out, if_pos (.inr (by simpa [hasB] using HBN.out))]
                  rw [HG2.out, HU.out, e1]; rfl
                · go_roundw
                  case rel =>
                    refine ⟨j + 1, x.1, by omega, by go_num, Last.next (by rw [List.getElem?_map, HX.out]; rfl), ?_, ((below_drewN HBX.out _).trans (hb'.mono (by simp; omega))).trans (hb''.mono (by omega)), hGy.below hb'' (by omega)⟩
                    have e1 : chkE vs last x = 0 := by
                      unfold chkE; rw [if_neg (by simp [hz0.out]), if_neg HAB.out, if_neg (fun h => by rcases h with h | h; exact h (by simpa [hasB] using HA.out); exact h (by simpa [hasB] using HBN.out))]
                    show chkEs vs x.1 (es.drop (j + 1)) = chkEs vs 0 es
                    rw [HU.out, e1]; rfl
                  case measure => simp [intOf]; omega
        · go_wp2
          go_ret
          refine ⟨ret_int ?_, hbr⟩
          have e1 : es.drop j = [] := List.drop_of_length_le (by have := HL'.out; omega)
          rw [HG2.out, ← HJ.out, e1]
          rfl

end Go.Proofs.Ytklmckbpbloonaa
