/- Parts of the proof: BkQ. -/
import Derived.Test.YtklmckbpbloonaaBC46
import Derived.Test.YtklmckbpbloonaaBC41
import Derived.Test.YtklmckbpbloonaaBC30
import Derived.Deep.QuietTactic
import Derived.BigQuiet
namespace Go.Proofs.Ytklmckbpbloonaa
open Go.RowKit

def ringAt (vs : List Int) (es : List Edg) (x y : Edg) (v : Int) : Bool := (!(v != y.2.1 && v != y.2.2)) && hasB (partL (lessV vs v) (lessE es v) (otherV x v)) (otherV y v)
def ringB (vs : List Int) (es : List Edg) (x y : Edg) : Bool := ringAt vs es x y x.2.1 || ringAt vs es x y x.2.2
theorem ring_iff {vs : List Int} {es : List Edg} (hf : Fit vs es) {x y : Edg} (hx : x ∈ es) (hy : y ∈ es) : ringB vs es x y = true ↔ ∃ v, atV x v ∧ atV y v ∧ Conn (lessE es v) (otherV x v) (otherV y v) := by
  have key : ∀ v, atV x v → (ringAt vs es x y v = true ↔ atV y v ∧ Conn (lessE es v) (otherV x v) (otherV y v)) := fun v hv => by
    unfold ringAt
    rw [Bool.and_eq_true]
    have e1 : ((!(v != y.2.1 && v != y.2.2)) = true) ↔ atV y v := by
      unfold atV
      simp only [Bool.not_eq_true', Bool.and_eq_false_iff, bne_eq_false_iff_eq]
      exact ⟨fun h => h.imp Eq.symm Eq.symm, fun h => h.imp Eq.symm Eq.symm⟩
    rw [e1]
    refine and_congr_right fun hyv => ?_
    unfold partL hasB
    rw [decide_eq_true_eq, List.mem_filter]
    have h1 := (other_mem hf hy hyv).1
    constructor
    · rintro ⟨_, h⟩
      exact lab_iff.1 (by simpa using h : lab (lessE es v) (otherV y v) = _).symm
    · intro h
      exact ⟨h1, by simpa using (lab_iff.2 h).symm⟩
  unfold ringB
  rw [Bool.or_eq_true, key _ (.inl rfl), key _ (.inr rfl)]
  constructor
  · rintro (h | h)
    · exact ⟨_, .inl rfl, h⟩
    · exact ⟨_, .inr rfl, h⟩
  · rintro ⟨v, hv, h⟩
    rcases hv with hv | hv
    · left; rw [hv]; exact h
    · right; rw [hv]; exact h
theorem two_at {w : World} {g : Nat} {a b : Int} (h : Blk w g 31 #[.int .u32 a, .int .u32 b]) {k : Nat} (hk : k < 2) : ∃ v, w.cell? ⟨g, k, none⟩ = some (.int .u32 v) ∧ [a, b][k]? = some v := by
  rcases (show k = 0 ∨ k = 1 by omega) with rfl | rfl
  · exact ⟨a, h.cell 0, rfl⟩
  · exact ⟨b, h.cell 1, rfl⟩
set_option maxRecDepth 100000 in
set_option maxHeartbeats 8000000 in
theorem ring_any (B : Nat) (A A' : Option Addr) (n c n' c' : Nat) (vs : List Int) (es : List Edg) (x y : Edg) (w : World) (h : RdU w B A n c vs) (h' : RdE w B A' n' c' es) (hB : B ≤ w.heap.size) (hf : Fit vs es) (hx : x ∈ es) (hy : y ∈ es) :
    Calls Try.prog 110 #[.agg #[.slice A n c, .slice A' n' c'], edV x, edV y] w fun e w' => e = .returned (.bool (ringB vs es x y)) ∧ Below w.heap.size w w' := by
  have hn64 : n ≤ 64 := by have := hf.nv; have := h.len; omega
  have hn160 : n' ≤ 160 := by have := hf.ne; have := h'.len; omega
  have bx1 := hf.big _ (hf.ends x hx).1
  have bx2 := hf.big _ (hf.ends x hx).2
  have by1 := hf.big _ (hf.ends y hy).1
  have by2 := hf.big _ (hf.ends y hy).2
  have HF := Lib.hid hf
  have HX := Lib.hid hx
  have HY := Lib.hid hy
  obtain ⟨X0, hX0⟩ : ∃ X0 : Obj, X0 = .cells #[.slice A n c, .slice A' n' c'] 25 := ⟨_, rfl⟩
  have hb0 := ((((Below.refl w.heap.size w).alloc (Nat.le_refl _) (.cells #[.slice A n c, .slice A' n' c'] 25)).alloc (by simp) (.cells #[.int .u32 x.1, .int .u32 x.2.1, .int .u32 x.2.2] 39)).alloc (by simp; omega) (.cells #[.int .u32 y.1, .int .u32 y.2.1, .int .u32 y.2.2] 39)).alloc (by simp; omega) (.cells #[.int .u32 x.2.1, .int .u32 x.2.2] 31)
  have HB0 := Lib.hid hb0
  have HG0 := Lib.hid ((((Blk.new w 25 #[.slice A n c, .slice A' n' c']).alloc (.cells #[.int .u32 x.1, .int .u32 x.2.1, .int .u32 x.2.2] 39)).alloc (.cells #[.int .u32 y.1, .int .u32 y.2.1, .int .u32 y.2.2] 39)).alloc (.cells #[.int .u32 x.2.1, .int .u32 x.2.2] 31))
  have hXx := ((Blk.new (w.alloc (.cells #[.slice A n c, .slice A' n' c'] 25)) 39 #[.int .u32 x.1, .int .u32 x.2.1, .int .u32 x.2.2]).alloc (.cells #[.int .u32 y.1, .int .u32 y.2.1, .int .u32 y.2.2] 39)).alloc (.cells #[.int .u32 x.2.1, .int .u32 x.2.2] 31)
  have hXy := (Blk.new ((w.alloc (.cells #[.slice A n c, .slice A' n' c'] 25)).alloc (.cells #[.int .u32 x.1, .int .u32 x.2.1, .int .u32 x.2.2] 39)) 39 #[.int .u32 y.1, .int .u32 y.2.1, .int .u32 y.2.2]).alloc (.cells #[.int .u32 x.2.1, .int .u32 x.2.2] 31)
  have hXs := Blk.new (((w.alloc (.cells #[.slice A n c, .slice A' n' c'] 25)).alloc (.cells #[.int .u32 x.1, .int .u32 x.2.1, .int .u32 x.2.2] 39)).alloc (.cells #[.int .u32 y.1, .int .u32 y.2.1, .int .u32 y.2.2] 39)) 31 #[.int .u32 x.2.1, .int .u32 x.2.2]
  simp only [World.size_alloc] at hXx hXy hXs
  have HXX := Lib.hid hXx
  have HXY := Lib.hid hXy
  have HXS := Lib.hid hXs
  clear hb0 hXx hXy hXs hf hx hy hX0 X0
  rw [← edV_lit, ← edV_lit]
  go_enter Try.func110, Try.ntmps110
  go_wp2_with fail
  go_loopw [19] (fun i wr => ∃ k : Nat, k ≤ 2 ∧ i = .int .i64 k ∧ Hid (∀ j v, j < k → [x.2.1, x.2.2][j]? = some v → ringAt vs es x y v = false) ∧ Below w.heap.size w wr ∧ Blk wr w.heap.size 25 #[.slice A n c, .slice A' n' c'] ∧ Blk wr (w.heap.size + 1) 39 #[.int .u32 x.1, .int .u32 x.2.1, .int .u32 x.2.2] ∧ Blk wr (w.heap.size + 1 + 1) 39 #[.int .u32 y.1, .int .u32 y.2.1, .int .u32 y.2.2] ∧ Blk wr (w.heap.size + 1 + 1 + 1) 31 #[.int .u32 x.2.1, .int .u32 x.2.2]) (fun i _ => 2 - (intOf i).toNat)
  case atStart => exact ⟨0, by omega, rfl, fun j v hj => absurd hj (by omega), HB0.out, HG0.out, HXX.out, HXY.out, HXS.out⟩
  case round =>
    clear HB0 HG0 HXX HXY HXS
    obtain ⟨k, hk, rfl, HJ, hbr, hG, hXx, hXy, hXs⟩ := hrel
    by_cases hlt : k < 2
    · obtain ⟨v, hcv, hv⟩ := two_at hXs hlt
      have hlt' : (k : Int) < 2 := by omega
      have hxv : atV x v := by
        rcases (show k = 0 ∨ k = 1 by omega) with rfl | rfl
        · left; simpa using hv
        · right; simpa using hv
      have HVX := Lib.hid hxv
      have HV := Lib.hid hv
      obtain ⟨g0, g1⟩ := hG.c2
      obtain ⟨x0, x1, x2⟩ := hXx.c3
      obtain ⟨y0, y1, y2⟩ := hXy.c3
      have l0 := hG.lt
      have l1 := hXx.lt
      have l2 := hXy.lt
      have l3 := hXs.lt
      have HG := Lib.hid hG
      have HXX := Lib.hid hXx
      have HXY := Lib.hid hXy
      have HXS := Lib.hid hXs
      have HB := Lib.hid hbr
      clear hG hXx hXy hXs hbr hxv hv
      by_cases hyv : atV y v
      · have HYV := Lib.hid hyv
        have hp : (x.2.1 + x.2.2) - v = otherV x v := by rcases other_at HVX.out with ⟨k1, k2⟩ | ⟨k1, k2⟩ <;> rw [k2] <;> omega
        have hq : (y.2.1 + y.2.2) - v = otherV y v := by rcases other_at HYV.out with ⟨k1, k2⟩ | ⟨k1, k2⟩ <;> rw [k2] <;> omega
        clear hyv
        have hp2 : otherV x v % 4294967296 = otherV x v := by rcases other_at HVX.out with ⟨_, k2⟩ | ⟨_, k2⟩ <;> rw [k2] <;> omega
        have hq2 : otherV y v % 4294967296 = otherV y v := by rcases other_at HYV.out with ⟨_, k2⟩ | ⟨_, k2⟩ <;> rw [k2] <;> omega
        cases d1 : (v != y.2.1)
        · go_wp2_with fail
          go_quiet (fail)
          go_wp2_with fail
          refine (rless_any B _ _ _ _ _ _ vs es v _ ((h.below (HB.out.mono hB)).drewN _) ((h'.below (HB.out.mono hB)).drewN _) (by omega) (by omega) (by have := HB.out.size; exact Nat.le_trans hB this)).mono ?_
          rintro e w2 ⟨A1, c1, A2, c2, rfl, k1, k2, k3⟩
          have k3' : Below wr.heap.size wr w2 := ⟨k3.os, k3.tape, k3.output, k3.size, k3.block⟩
          have HB2 := Lib.hid (HB.out.trans (k3'.mono HB.out.size))
          have HG2 := Lib.hid (HG.out.below k3' HG.out.lt)
          have HXX2 := Lib.hid (HXX.out.below k3' HXX.out.lt)
          have HXY2 := Lib.hid (HXY.out.below k3' HXY.out.lt)
          have HXS2 := Lib.hid (HXS.out.below k3' HXS.out.lt)
          have hlv := lessV_len vs v
          have hlv2 : (lessV vs v).length ≤ 64 := by have := HF.out.nv; omega
          clear k3 k3' HB HG HXX HXY HXS
          go_wp2_with fail
          refine (rpart_any _ _ _ _ _ _ _ (lessV vs v) (lessE es v) (otherV x v) _ k1 k2 (by omega) (Nat.le_refl _)).mono ?_
          rintro e w3 ⟨r3, A3, c3, rfl, m1, m2, _⟩
          have HB3 := Lib.hid (HB2.out.trans (m2.mono HB2.out.size))
          have HG3 := Lib.hid (HG2.out.below m2 HG2.out.lt)
          have HXX3 := Lib.hid (HXX2.out.below m2 HXX2.out.lt)
          have HXY3 := Lib.hid (HXY2.out.below m2 HXY2.out.lt)
          have HXS3 := Lib.hid (HXS2.out.below m2 HXS2.out.lt)
          have hpl : (partL (lessV vs v) (lessE es v) (otherV x v)).length = partLen (lessV vs v) (lessE es v) (otherV x v) := rfl
          have hple : (partL (lessV vs v) (lessE es v) (otherV x v)).length ≤ (lessV vs v).length := List.length_filter_le _ _
          obtain ⟨PL, hPL⟩ : ∃ PL, partL (lessV vs v) (lessE es v) (otherV x v) = PL := ⟨_, rfl⟩
          have HPL := Lib.hid hPL
          obtain ⟨np, hnp⟩ : ∃ np, partLen (lessV vs v) (lessE es v) (otherV x v) = np := ⟨_, rfl⟩
          rw [hPL, hnp] at m1 hpl
          rw [hPL] at hple
          rw [hnp]
          have HM1 := Lib.hid m1.rd
          have hpb := m1.rd.bd
          have HNP := Lib.hid hpl
          clear k1 k2 m1 m2 hPL hnp HB2 HG2 HXX2 HXY2 HXS2 hpl
          go_wp2_with fail
          obtain ⟨wo, rfl⟩ : ∃ wo : World, wo = w3 := ⟨_, rfl⟩
          go_loopw [53] (fun i wr2 => ∃ q : Nat, q ≤ np ∧ i = .int .i64 q ∧ wr2 = wo ∧ Hid (∀ j, j < q → PL[j]? ≠ some (otherV y v))) (fun i _ => np - (intOf i).toNat)
          case atStart => exact ⟨0, by omega, rfl, rfl, fun j hj => absurd hj (by omega)⟩
          case round =>
            obtain ⟨q, hqn, rfl, rfl, HQ⟩ := hrel
            by_cases hltq : q < np
            · obtain ⟨ad, z, rfl, hbl, hz, _, hcz⟩ := HM1.out.at_ hltq
              have HZ := Lib.hid hz
              clear hz
              by_cases he : z = otherV y v
              · have he' : (z == otherV y v) = true := by simp [he]
                have HR : Hid (ringB vs es x y = true) := by
                  have h1 : ringAt vs es x y v = true := by
                    unfold ringAt
                    rw [HPL.out]
                    have h2 : hasB PL (otherV y v) = true := by rw [← he]; exact hasB_true HZ.out
                    rw [h2]
                    rcases HYV.out with q1 | q1 <;> simp [q1]
                  show ringB vs es x y = true
                  unfold ringB
                  rcases HVX.out with q1 | q1
                  · rw [q1, h1]; rfl
                  · rw [q1, h1]; simp
                clear he
                go_wp2_with fail
                go_ret
                exact ⟨ret_bool HR.out.symm, HB3.out⟩
              · have he' : (z == otherV y v) = false := by simp [he]
                have HE := Lib.hid he
                clear he
                go_wp2_with fail
                go_roundw
                case rel =>
                  refine ⟨q + 1, by omega, by go_num, by first | rfl | trivial, fun j hj => ?_⟩
                  by_cases e : j = q
                  · rw [e, HZ.out]; intro e2; injection e2 with e2; exact HE.out e2
                  · exact HQ.out j (by omega)
                case measure => simp [intOf]; omega
            · obtain rfl : np = q := by omega
              have HRF : Hid (ringAt vs es x y v = false) := by
                show _ = _
                unfold ringAt
                rw [HPL.out, hasB_false fun j hj => HQ.out j (by have := HNP.out; omega)]
                simp
              go_wp2_with fail
              go_roundw
              case rel =>
                refine ⟨k + 1, by omega, by go_num, fun j v' hj hv' => ?_, HB3.out, HG3.out, HXX3.out, HXY3.out, HXS3.out⟩
                by_cases e : j = k
                · rw [e, HV.out] at hv'; injection hv' with hv'; rw [← hv']; exact HRF.out
                · exact HJ.out j v' (by omega) hv'
              case measure => simp [intOf]; omega
        · have d2 : (v != y.2.2) = false := by
            rcases HYV.out with q1 | q1
            · rw [← q1] at d1; simp at d1
            · rw [← q1]; simp
          go_wp2_with fail
          go_quiet (fail)
          go_wp2_with fail
          refine (rless_any B _ _ _ _ _ _ vs es v _ ((h.below (HB.out.mono hB)).drewN _) ((h'.below (HB.out.mono hB)).drewN _) (by omega) (by omega) (by have := HB.out.size; exact Nat.le_trans hB this)).mono ?_
          rintro e w2 ⟨A1, c1, A2, c2, rfl, k1, k2, k3⟩
          have k3' : Below wr.heap.size wr w2 := ⟨k3.os, k3.tape, k3.output, k3.size, k3.block⟩
          have HB2 := Lib.hid (HB.out.trans (k3'.mono HB.out.size))
          have HG2 := Lib.hid (HG.out.below k3' HG.out.lt)
          have HXX2 := Lib.hid (HXX.out.below k3' HXX.out.lt)
          have HXY2 := Lib.hid (HXY.out.below k3' HXY.out.lt)
          have HXS2 := Lib.hid (HXS.out.below k3' HXS.out.lt)
          have hlv := lessV_len vs v
          have hlv2 : (lessV vs v).length ≤ 64 := by have := HF.out.nv; omega
          clear k3 k3' HB HG HXX HXY HXS
          go_wp2_with fail
          refine (rpart_any _ _ _ _ _ _ _ (lessV vs v) (lessE es v) (otherV x v) _ k1 k2 (by omega) (Nat.le_refl _)).mono ?_
          rintro e w3 ⟨r3, A3, c3, rfl, m1, m2, _⟩
          have HB3 := Lib.hid (HB2.out.trans (m2.mono HB2.out.size))
          have HG3 := Lib.hid (HG2.out.below m2 HG2.out.lt)
          have HXX3 := Lib.hid (HXX2.out.below m2 HXX2.out.lt)
          have HXY3 := Lib.hid (HXY2.out.below m2 HXY2.out.lt)
          have HXS3 := Lib.hid (HXS2.out.below m2 HXS2.out.lt)
          have hpl : (partL (lessV vs v) (lessE es v) (otherV x v)).length = partLen (lessV vs v) (lessE es v) (otherV x v) := rfl
          have hple : (partL (lessV vs v) (lessE es v) (otherV x v)).length ≤ (lessV vs v).length := List.length_filter_le _ _
          obtain ⟨PL, hPL⟩ : ∃ PL, partL (lessV vs v) (lessE es v) (otherV x v) = PL := ⟨_, rfl⟩
          have HPL := Lib.hid hPL
          obtain ⟨np, hnp⟩ : ∃ np, partLen (lessV vs v) (lessE es v) (otherV x v) = np := ⟨_, rfl⟩
          rw [hPL, hnp] at m1 hpl
          rw [hPL] at hple
          rw [hnp]
          have HM1 := Lib.hid m1.rd
          have hpb := m1.rd.bd
          have HNP := Lib.hid hpl
          clear k1 k2 m1 m2 hPL hnp HB2 HG2 HXX2 HXY2 HXS2 hpl
          go_wp2_with fail
          obtain ⟨wo, rfl⟩ : ∃ wo : World, wo = w3 := ⟨_, rfl⟩
          go_loopw [53] (fun i wr2 => ∃ q : Nat, q ≤ np ∧ i = .int .i64 q ∧ wr2 = wo ∧ Hid (∀ j, j < q → PL[j]? ≠ some (otherV y v))) (fun i _ => np - (intOf i).toNat)
          case atStart => exact ⟨0, by omega, rfl, rfl, fun j hj => absurd hj (by omega)⟩
          case round =>
            obtain ⟨q, hqn, rfl, rfl, HQ⟩ := hrel
            by_cases hltq : q < np
            · obtain ⟨ad, z, rfl, hbl, hz, _, hcz⟩ := HM1.out.at_ hltq
              have HZ := Lib.hid hz
              clear hz
              by_cases he : z = otherV y v
              · have he' : (z == otherV y v) = true := by simp [he]
                have HR : Hid (ringB vs es x y = true) := by
                  have h1 : ringAt vs es x y v = true := by
                    unfold ringAt
                    rw [HPL.out]
                    have h2 : hasB PL (otherV y v) = true := by rw [← he]; exact hasB_true HZ.out
                    rw [h2]
                    rcases HYV.out with q1 | q1 <;> simp [q1]
                  show ringB vs es x y = true
                  unfold ringB
                  rcases HVX.out with q1 | q1
                  · rw [q1, h1]; rfl
                  · rw [q1, h1]; simp
                clear he
                go_wp2_with fail
                go_ret
                exact ⟨ret_bool HR.out.symm, HB3.out⟩
              · have he' : (z == otherV y v) = false := by simp [he]
                have HE := Lib.hid he
                clear he
                go_wp2_with fail
                go_roundw
                case rel =>
                  refine ⟨q + 1, by omega, by go_num, by first | rfl | trivial, fun j hj => ?_⟩
                  by_cases e : j = q
                  · rw [e, HZ.out]; intro e2; injection e2 with e2; exact HE.out e2
                  · exact HQ.out j (by omega)
                case measure => simp [intOf]; omega
            · obtain rfl : np = q := by omega
              have HRF : Hid (ringAt vs es x y v = false) := by
                show _ = _
                unfold ringAt
                rw [HPL.out, hasB_false fun j hj => HQ.out j (by have := HNP.out; omega)]
                simp
              go_wp2_with fail
              go_roundw
              case rel =>
                refine ⟨k + 1, by omega, by go_num, fun j v' hj hv' => ?_, HB3.out, HG3.out, HXX3.out, HXY3.out, HXS3.out⟩
                by_cases e : j = k
                · rw [e, HV.out] at hv'; injection hv' with hv'; rw [← hv']; exact HRF.out
                · exact HJ.out j v' (by omega) hv'
              case measure => simp [intOf]; omega
      · have d1 : (v != y.2.1) = true := by simp only [bne_iff_ne, ne_eq]; exact fun e => hyv (.inl e.symm)
        have d2 : (v != y.2.2) = true := by simp only [bne_iff_ne, ne_eq]; exact fun e => hyv (.inr e.symm)
        have HRF : Hid (ringAt vs es x y v = false) := by show _ = _; unfold ringAt; rw [d1, d2]; rfl
        go_wp2_with fail
        go_roundw
        case rel =>
          refine ⟨k + 1, by omega, by go_num, fun j v' hj hv' => ?_, HB.out, HG.out, HXX.out, HXY.out, HXS.out⟩
          by_cases e : j = k
          · rw [e, HV.out] at hv'; injection hv' with hv'; rw [← hv']; exact HRF.out
          · exact HJ.out j v' (by omega) hv'
        case measure => simp [intOf]; omega
    · obtain rfl : k = 2 := by omega
      have HR : Hid (ringB vs es x y = false) := by
        show _ = _
        unfold ringB
        rw [HJ.out 0 x.2.1 (by omega) rfl, HJ.out 1 x.2.2 (by omega) rfl]; rfl
      go_wp2_with fail
      go_ret
      exact ⟨ret_bool HR.out.symm, hbr⟩
end Go.Proofs.Ytklmckbpbloonaa
