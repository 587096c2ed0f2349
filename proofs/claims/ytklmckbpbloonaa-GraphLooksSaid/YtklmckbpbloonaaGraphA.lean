/- Walks: the small functions of the layers 8 and 9 (places, checks), the program's and the references'. -/
import Derived.Test.YtklmckbpbloonaaProg
import Derived.Test.YtklmckbpbloonaaBase
namespace Go.Proofs.Ytklmckbpbloonaa
open Go.RowKit

/-! What both compute. -/
def chkN (last n : Int) : Int := if n < 1 ∨ 1048576 < n then 2 else if n ≤ last then 19 else 0
def chkVs : Int → List Int → Int
  | _, [] => 0
  | last, v :: vs => if chkN last v ≠ 0 then chkN last v else chkVs v vs
def chkE (all : List Int) (last : Int) (e : Edg) : Int :=
  if chkN last e.1 ≠ 0 then chkN last e.1 else if e.2.1 = e.2.2 then 20 else if e.2.1 ∉ all ∨ e.2.2 ∉ all then 21 else 0
def chkEs (all : List Int) : Int → List Edg → Int
  | _, [] => 0
  | last, e :: es => if chkE all last e ≠ 0 then chkE all last e else chkEs all e.1 es
def gcheck (vs : List Int) (es : List Edg) : Int :=
  if 64 < vs.length ∨ 160 < es.length then 6 else if chkVs 0 vs ≠ 0 then chkVs 0 vs else chkEs vs 0 es

set_option maxHeartbeats 400000 in
theorem number_any (last n : Int) (w : World) :
    Calls Try.prog 56 #[.int .u32 last, .int .u32 n] w fun e w' => e = .returned (.int .i64 (chkN last n)) ∧ w = w' := by
  by_cases h1 : n < 1
  · go_enter Try.func56, Try.ntmps56
    go_wp2
    go_ret
    exact ⟨ret_int (by simp [chkN, h1]), rfl⟩
  · by_cases h2 : 1048576 < n
    · go_enter Try.func56, Try.ntmps56
      go_wp2
      go_ret
      exact ⟨ret_int (by simp [chkN, h2]), rfl⟩
    · by_cases h3 : n ≤ last
      · go_enter Try.func56, Try.ntmps56
        go_wp2
        go_ret
        exact ⟨ret_int (by simp [chkN, h1, h2, h3]), rfl⟩
      · go_enter Try.func56, Try.ntmps56
        go_wp2
        go_ret
        exact ⟨ret_int (by unfold chkN; rw [if_neg (by omega), if_neg (by omega)]), rfl⟩

set_option maxHeartbeats 400000 in
theorem index_any (B : Nat) (A : Option Addr) (n c : Nat) (xs : List Int) (x : Int) (w : World) (h : RdU w B A n c xs) :
    Calls Try.prog 59 #[.slice A n c, .int .u32 x] w fun e w' => e = .returned (.int .i64 (idx xs x)) ∧ w = w' := by
  have HL := Lib.hid h.len
  obtain ⟨hn, hc⟩ := h.bd
  go_enter Try.func59, Try.ntmps59
  go_wp2
  go_loop [8] (fun i => ∃ k : Nat, k ≤ n ∧ i = .int .i64 k ∧ Hid (∀ j, j < k → xs[j]? ≠ some x)) (fun i => n - (intOf i).toNat)
  case atStart => exact ⟨0, Nat.zero_le _, rfl, fun j hj => absurd hj (by omega)⟩
  case round =>
    obtain ⟨k, hk, rfl, HJ⟩ := hrel
    by_cases hlt : k < n
    · obtain ⟨ad, y, rfl, _, hy, _, hcell⟩ := h.at_ hlt
      have HY := Lib.hid hy
      clear hy
      by_cases he : x = y
      · subst he
        go_wp2
        go_ret
        exact ⟨ret_int (idx_hit HJ.out HY.out).symm, rfl⟩
      · have he' : (x == y) = false := by simpa using he
        clear he
        go_wp2
        go_round
        case rel =>
          refine ⟨k + 1, by omega, by go_num, fun j hj => ?_⟩
          by_cases e : j = k
          · subst e; rw [HY.out]; intro e; simp at e; simp [e] at he'
          · exact HJ.out j (by omega)
        case measure => simp [intOf]; omega
    · go_wp2
      go_ret
      exact ⟨ret_int (idx_miss fun j hj => HJ.out j (by have := HL.out; omega)).symm, rfl⟩

set_option maxHeartbeats 400000 in
theorem vert_any (B : Nat) (A : Option Addr) (n c : Nat) (xs : List Int) (v1 : Value) (x : Int) (w : World) (h : RdU w B A n c xs) (hB : B ≤ w.heap.size) :
    Calls Try.prog 19 #[.agg #[.slice A n c, v1], .int .u32 x] w fun e w' => e = .returned (.int .i64 (idx xs x)) ∧ Below w.heap.size w w' := by
  have hb : Below w.heap.size w (w.alloc (.cells #[.slice A n c, v1] 25)) := (Below.refl _ _).alloc (Nat.le_refl _) _
  go_enter Try.func19, Try.ntmps19
  go_wp2_with (go_at_call 59; refine (index_any B A n c xs x _ (h.below (hb.mono hB))).mono ?_; rintro e w' ⟨rfl, rfl⟩)
  go_ret
  exact ⟨rfl, hb⟩

theorem chkVs_cons (last v : Int) (vs : List Int) : chkVs last (v :: vs) = if chkN last v ≠ 0 then chkN last v else chkVs v vs := rfl
theorem chkEs_cons (all : List Int) (last : Int) (e : Edg) (es : List Edg) : chkEs all last (e :: es) = if chkE all last e ≠ 0 then chkE all last e else chkEs all e.1 es := rfl

set_option maxHeartbeats 1000000 in
theorem check_any (B : Nat) (A A' : Option Addr) (n c n' c' : Nat) (vs : List Int) (es : List Edg) (w : World) (h : RdU w B A n c vs) (h' : RdE w B A' n' c' es) (hB : B ≤ w.heap.size) :
    Calls Try.prog 14 #[.agg #[.slice A n c, .slice A' n' c']] w fun e w' => e = .returned (.int .i64 (gcheck vs es)) ∧ Below w.heap.size w w' := by
  have HL := Lib.hid h.len
  have HL' := Lib.hid h'.len
  obtain ⟨hn, hc⟩ := h.bd
  obtain ⟨hn', hc'⟩ := h'.bd
  have hb : Below w.heap.size w (w.alloc (.cells #[.slice A n c, .slice A' n' c'] 25)) := (Below.refl _ _).alloc (Nat.le_refl _) _
  by_cases h64 : 64 < n
  · go_enter Try.func14, Try.ntmps14
    go_wp2
    go_ret
    exact ⟨ret_int (by unfold gcheck; rw [if_pos (by have := HL.out; omega)]), hb⟩
  by_cases h160 : 160 < n'
  · go_enter Try.func14, Try.ntmps14
    go_wp2
    go_ret
    exact ⟨ret_int (by unfold gcheck; rw [if_pos (by have := HL'.out; omega)]), hb⟩
  have HG : Hid (gcheck vs es = if chkVs 0 vs ≠ 0 then chkVs 0 vs else chkEs vs 0 es) := by
    show gcheck vs es = _
    unfold gcheck; rw [if_neg (by have := HL.out; have := HL'.out; omega)]
  have hr := h.below (hb.mono hB)
  have HB := Lib.hid hb
  clear hb
  go_enter Try.func14, Try.ntmps14
  go_wp2
  go_loop [3, 23] (fun l i => ∃ (k : Nat) (last : Int), k ≤ n ∧ i = .int .i64 k ∧ l = .int .u32 last ∧ Hid (chkVs last (vs.drop k) = chkVs 0 vs)) (fun _ i => n - (intOf i).toNat)
  case atStart => exact ⟨0, 0, Nat.zero_le _, rfl, rfl, rfl⟩
  case round =>
    obtain ⟨k, last, hk, rfl, rfl, HJ⟩ := hrel
    by_cases hlt : k < n
    · obtain ⟨ad, y, rfl, hbl, hy, _, hcell⟩ := hr.at_ hlt
      have HY := Lib.hid hy
      clear hy
      by_cases he : chkN last y = 0
      · have HE := Lib.hid he
        clear he
        go_wp2_with (go_at_call 56; refine (number_any _ _ _).mono ?_; rintro e w' ⟨rfl, rfl⟩; rw [HE.out])
        go_round
        case rel =>
          refine ⟨k + 1, y, by omega, by go_num, rfl, ?_⟩
          show chkVs y (vs.drop (k + 1)) = chkVs 0 vs
          rw [← HJ.out, drop_at HY.out, chkVs_cons, if_neg (by simp [HE.out])]
        case measure => simp [intOf]; omega
      · have he' : (chkN last y != 0) = true := by simpa using he
        have HE := Lib.hid he
        clear he
        go_wp2_with (go_at_call 56; refine (number_any _ _ _).mono ?_; rintro e w' ⟨rfl, rfl⟩)
        go_ret
        refine ⟨ret_int ?_, HB.out⟩
        have e1 : chkVs 0 vs = chkN last y := by rw [← HJ.out, drop_at HY.out, chkVs_cons, if_pos HE.out]
        rw [HG.out, e1, if_pos HE.out]
    · obtain rfl : k = n := by omega
      have HV : Hid (chkVs 0 vs = 0) := by
        show chkVs 0 vs = 0
        rw [← HJ.out, List.drop_of_length_le (by have := HL.out; omega)]; rfl
      have HG2 : Hid (gcheck vs es = chkEs vs 0 es) := by
        show gcheck vs es = chkEs vs 0 es
        rw [HG.out, if_neg (by simp [HV.out])]
      clear HJ HG
      go_wp2
      have hG0 := Blk.new w 25 #[.slice A k c, .slice A' n' c']
      go_loopw [3, 38] (fun l i wr => ∃ (j : Nat) (last : Int), j ≤ n' ∧ i = .int .i64 j ∧ l = .int .u32 last ∧ Hid (chkEs vs last (es.drop j) = chkEs vs 0 es) ∧
          Below w.heap.size w wr ∧ Blk wr w.heap.size 25 #[.slice A k c, .slice A' n' c']) (fun _ i _ => n' - (intOf i).toNat)
      case atStart => exact ⟨0, 0, Nat.zero_le _, rfl, rfl, rfl, HB.out, hG0⟩
      case round =>
        obtain ⟨j, last, hj, rfl, rfl, HJ, hbr, hG⟩ := hrel
        clear hG0
        have hq := h.below (hbr.mono hB)
        have hq' := h'.below (hbr.mono hB)
        obtain ⟨hg0, hg1⟩ := hG.c2
        have hsz := hG.lt
        by_cases hlt : j < n'
        · obtain ⟨ad, x, rfl, hbl, hx, _, hc1, hc2, hc3⟩ := hq'.at_ hlt
          have HX := Lib.hid hx
          clear hx
          have HU : Hid (chkEs vs last (es.drop j) = if chkE vs last x ≠ 0 then chkE vs last x else chkEs vs x.1 (es.drop (j + 1))) := by
            show chkEs vs last (es.drop j) = _
            rw [drop_at HX.out, chkEs_cons]
          have HBX := Lib.hid (hbr.alloc (by omega) (.cells #[.int .u32 x.1, .int .u32 x.2.1, .int .u32 x.2.2] 39))
          have hGx := hG.alloc (.cells #[.int .u32 x.1, .int .u32 x.2.1, .int .u32 x.2.2] 39)
          have hX := Blk.new wr 39 #[.int .u32 x.1, .int .u32 x.2.1, .int .u32 x.2.2]
          have hqx := hq.below (Below.alloc (Below.refl B wr) (by omega) (.cells #[.int .u32 x.1, .int .u32 x.2.1, .int .u32 x.2.2] 39))
          by_cases he : chkN last x.1 = 0
          · have HE := Lib.hid he
            clear he
            by_cases hab : x.2.1 = x.2.2
            · have hab' : (x.2.1 == x.2.2) = true := by simpa using hab
              have HAB := Lib.hid hab
              clear hab
              go_wp2_with (go_at_call 56; refine (number_any _ _ _).mono ?_; rintro e w' ⟨rfl, rfl⟩; rw [HE.out])
              go_ret
              refine ⟨ret_int ?_, HBX.out⟩
              have e1 : chkE vs last x = 20 := by unfold chkE; rw [if_neg (by simp [HE.out]), if_pos HAB.out]
              rw [HG2.out, ← HJ.out, HU.out, if_pos (by rw [e1]; decide), e1]
            · have hab' : (x.2.1 == x.2.2) = false := by simpa using hab
              have HAB := Lib.hid hab
              clear hab
              by_cases ha : idx vs x.2.1 < 0
              · go_wp2_with (first | (go_at_call 56; refine (number_any _ _ _).mono ?_; rintro e w' ⟨rfl, rfl⟩; rw [HE.out]) | (go_at_call 19; refine (vert_any B _ _ _ _ _ _ _ hqx (by simp; omega)).mono ?_; rintro e w' ⟨rfl, hb'⟩))
                go_ret
                refine ⟨ret_int ?_, HBX.out.trans (hb'.mono (by simp; omega))⟩
                have e1 : chkE vs last x = 21 := by unfold chkE; rw [if_neg (by simp [HE.out]), if_neg HAB.out, if_pos (.inl (by rw [← idx_neg]; exact ha))]
                rw [HG2.out, ← HJ.out, HU.out, if_pos (by rw [e1]; decide), e1]
              · have hba : Hid (¬ (x.2.1 ∉ vs)) := by show ¬ _; rw [← idx_neg]; exact ha
                by_cases hbn : idx vs x.2.2 < 0
                all_goals
                  go_wp2_with (first | (go_at_call 56; refine (number_any _ _ _).mono ?_; rintro e w' ⟨rfl, rfl⟩; rw [HE.out]) | (go_at_call_of 19 x.2.1; refine (vert_any B _ _ _ _ _ _ _ hqx (by simp; omega)).mono ?_; rintro e w' ⟨rfl, hb'⟩; have hqy := hqx.below (hb'.mono (by simp; omega)); have hGy := hGx.below hb' (by simp; omega); have hXy := hX.below hb' (by simp); obtain ⟨hc4, hc5⟩ := hGy.c2; obtain ⟨hc6, hc7, hc8⟩ := hXy.c3; have hsy := hXy.lt) | (go_at_call_of 19 x.2.2; refine (vert_any B _ _ _ _ _ _ _ hqy (by omega)).mono ?_; rintro e w'' ⟨rfl, hb''⟩))
                · go_ret
                  refine ⟨ret_int ?_, (HBX.out.trans (hb'.mono (by simp; omega))).trans (hb''.mono (by omega))⟩
                  have e1 : chkE vs last x = 21 := by unfold chkE; rw [if_neg (by simp [HE.out]), if_neg HAB.out, if_pos (.inr (by rw [← idx_neg]; exact hbn))]
                  rw [HG2.out, ← HJ.out, HU.out, if_pos (by rw [e1]; decide), e1]
                · have HBB : Hid (¬ (x.2.2 ∉ vs)) := by show ¬ _; rw [← idx_neg]; omega
                  go_roundw
                  case rel =>
                    refine ⟨j + 1, x.1, by omega, by go_num, rfl, ?_, (HBX.out.trans (hb'.mono (by simp; omega))).trans (hb''.mono (by omega)), hGy.below hb'' (by omega)⟩
                    have e1 : chkE vs last x = 0 := by
                      unfold chkE; rw [if_neg (by simp [HE.out]), if_neg HAB.out, if_neg (fun h => by rcases h with h | h; exact hba.out h; exact HBB.out h)]
                    show chkEs vs x.1 (es.drop (j + 1)) = chkEs vs 0 es
                    rw [← HJ.out, HU.out, if_neg (by simp [e1])]
                  case measure => simp [intOf]; omega
          · have he' : (chkN last x.1 != 0) = true := by simpa using he
            have HE := Lib.hid he
            clear he
            go_wp2_with (go_at_call 56; refine (number_any _ _ _).mono ?_; rintro e w' ⟨rfl, rfl⟩)
            go_ret
            refine ⟨ret_int ?_, HBX.out⟩
            have e1 : chkE vs last x = chkN last x.1 := by unfold chkE; rw [if_pos HE.out]
            rw [HG2.out, ← HJ.out, HU.out, if_pos (by rw [e1]; exact HE.out), e1]
        · go_wp2
          go_ret
          refine ⟨ret_int ?_, hbr⟩
          have e1 : es.drop j = [] := List.drop_of_length_le (by have := HL'.out; omega)
          rw [HG2.out, ← HJ.out, e1]
          rfl

end Go.Proofs.Ytklmckbpbloonaa
