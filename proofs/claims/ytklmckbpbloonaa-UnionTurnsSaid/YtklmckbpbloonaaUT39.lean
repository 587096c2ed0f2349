/- Parts of the proof: UnS. -/
import Derived.Test.YtklmckbpbloonaaUT35
import Derived.Deep.QuietTactic
import Derived.BigQuiet
namespace Go.Proofs.Ytklmckbpbloonaa
open Go.RowKit

def sameG (g h : Gph) : Bool := decide (g = h)
theorem sameG_self (g : Gph) : sameG g g = true := by simp [sameG]
theorem sameG_ne {g h : Gph} (hn : g ≠ h) : sameG g h = false := by simp [sameG, hn]
theorem list_ext {α : Type} {xs ys : List α} {n : Nat} (h1 : xs.length = n) (h2 : ys.length = n) (h : ∀ j, j < n → xs[j]? = ys[j]?) : xs = ys := by
  refine List.ext_getElem? fun j => ?_
  by_cases hj : j < n
  · exact h j hj
  · rw [List.getElem?_eq_none (by omega), List.getElem?_eq_none (by omega)]
set_option maxRecDepth 100000 in
set_option maxHeartbeats 4000000 in
theorem rsameG_any (B : Nat) (va vb : Value) (a b : Gph) (w : World) (ha : RdG w B va a) (hb : RdG w B vb b) (hB : B ≤ w.heap.size) :
    Calls Try.prog 36 #[va, vb] w fun e w' => e = .returned (.bool (sameG a b)) ∧ Below w.heap.size w w' := by
  obtain ⟨A1, n1, c1, A2, n2, c2, rfl, a1, a2⟩ := ha
  obtain ⟨B1, m1, d1, B2, m2, d2, rfl, b1, b2⟩ := hb
  have la1 := a1.len
  have la2 := a2.len
  have lb1 := b1.len
  have lb2 := b2.len
  obtain ⟨k1, k2⟩ := a1.bd
  obtain ⟨k3, k4⟩ := a2.bd
  obtain ⟨k5, k6⟩ := b1.bd
  obtain ⟨k7, k8⟩ := b2.bd
  have HB0 := Lib.hid (((Below.refl w.heap.size w).alloc (Nat.le_refl _) (.cells #[.slice A1 n1 c1, .slice A2 n2 c2] 25)).alloc (by simp) (.cells #[.slice B1 m1 d1, .slice B2 m2 d2] 25))
  have HX0 := Lib.hid ((Blk.new w 25 #[.slice A1 n1 c1, .slice A2 n2 c2]).alloc (.cells #[.slice B1 m1 d1, .slice B2 m2 d2] 25))
  have hY0 := Blk.new (w.alloc (.cells #[.slice A1 n1 c1, .slice A2 n2 c2] 25)) 25 #[.slice B1 m1 d1, .slice B2 m2 d2]
  simp only [World.size_alloc] at hY0
  have HY0 := Lib.hid hY0
  clear hY0
  by_cases e1 : n1 = m1
  · by_cases e2 : n2 = m2
    · subst e1
      subst e2
      have q1 : ((n1 : Int) != n1) = false := by simp
      have q2 : ((n2 : Int) != n2) = false := by simp
      have HA1 := Lib.hid la1
      have HA2 := Lib.hid la2
      have HL1 := Lib.hid lb1
      have HL2 := Lib.hid lb2
      clear la1 la2 lb1 lb2
      go_enter Try.func36, Try.ntmps36
      go_wp2_with fail
      go_loopw [26] (fun i wr => ∃ k : Nat, k ≤ n1 ∧ i = .int .i64 k ∧ Hid (∀ j, j < k → a.1[j]? = b.1[j]?) ∧ Below w.heap.size w wr ∧ Blk wr w.heap.size 25 #[.slice A1 n1 c1, .slice A2 n2 c2] ∧ Blk wr (w.heap.size + 1) 25 #[.slice B1 n1 d1, .slice B2 n2 d2]) (fun i _ => n1 - (intOf i).toNat)
      case atStart => exact ⟨0, by omega, rfl, fun j hj => absurd hj (by omega), HB0.out, HX0.out, HY0.out⟩
      case round =>
        clear HB0 HX0 HY0
        obtain ⟨k, hk, rfl, HJ, hbr, hX, hY⟩ := hrel
        obtain ⟨x0, x1⟩ := hX.c2
        obtain ⟨y0, y1⟩ := hY.c2
        have hxl := hX.lt
        have hyl := hY.lt
        by_cases hlt : k < n1
        · obtain ⟨ad, x, rfl, _, hx, _, hcell⟩ := (a1.below (hbr.mono hB)).at_ hlt
          obtain ⟨ad', y, rfl, _, hy, _, hcell'⟩ := (b1.below (hbr.mono hB)).at_ hlt
          have HX := Lib.hid hx
          have HY := Lib.hid hy
          have b1' : (k : Int) < n1 := by omega
          clear hx hy
          by_cases he : x = y
          · have he' : (x != y) = false := by simp [he]
            have HE := Lib.hid he
            clear he
            go_wp2_with fail
            go_quiet (fail)
            go_wp2_with fail
            go_roundw
            case rel =>
              refine ⟨k + 1, by omega, by go_num, fun j hj => ?_, below_drewN hbr _, hX.drewN _, hY.drewN _⟩
              by_cases e : j = k
              · subst e; rw [HX.out, HY.out, HE.out]
              · exact HJ.out j (by omega)
            case measure => simp [intOf]; omega
          · have he' : (x != y) = true := by simp [he]
            have HE := Lib.hid he
            clear he
            go_wp2_with fail
            go_quiet (fail)
            go_wp2_with fail
            go_ret
            refine ⟨ret_bool (sameG_ne fun e => HE.out ?_).symm, below_drewN hbr _⟩
            have h1 := HX.out
            have h2 := HY.out
            rw [e, h2] at h1
            injection h1 with h1
            exact h1.symm
        · obtain rfl : n1 = k := by omega
          have HV : Hid (a.1 = b.1) := list_ext HA1.out HL1.out HJ.out
          have HB1 := Lib.hid hbr
          have HX1 := Lib.hid hX
          have HY1 := Lib.hid hY
          clear hbr hX hY HJ
          go_wp2_with fail
          go_loopw [44] (fun i wr => ∃ k : Nat, k ≤ n2 ∧ i = .int .i64 k ∧ Hid (∀ j, j < k → a.2[j]? = b.2[j]?) ∧ Below w.heap.size w wr ∧ Blk wr w.heap.size 25 #[.slice A1 n1 c1, .slice A2 n2 c2] ∧ Blk wr (w.heap.size + 1) 25 #[.slice B1 n1 d1, .slice B2 n2 d2]) (fun i _ => n2 - (intOf i).toNat)
          case atStart => exact ⟨0, by omega, rfl, fun j hj => absurd hj (by omega), HB1.out, HX1.out, HY1.out⟩
          case round =>
            clear HB1 HX1 HY1 x0 x1 y0 y1
            obtain ⟨k, hk, rfl, HJ, hbr, hX, hY⟩ := hrel
            obtain ⟨x0, x1⟩ := hX.c2
            obtain ⟨y0, y1⟩ := hY.c2
            have hxl := hX.lt
            have hyl := hY.lt
            by_cases hlt : k < n2
            · obtain ⟨ad, x, rfl, _, hx, _, hc0, hc1, hc2⟩ := (a2.below (hbr.mono hB)).at_ hlt
              obtain ⟨ad', y, rfl, _, hy, _, hd0, hd1, hd2⟩ := (b2.below (hbr.mono hB)).at_ hlt
              have HX := Lib.hid hx
              have HY := Lib.hid hy
              have b1' : (k : Int) < n2 := by omega
              clear hx hy
              by_cases he : x = y
              · subst he
                go_wp2_with fail
                go_quiet (fail)
                go_wp2_with fail
                go_roundw
                case rel =>
                  refine ⟨k + 1, by omega, by go_num, fun j hj => ?_, below_drewN hbr _, hX.drewN _, hY.drewN _⟩
                  by_cases e : j = k
                  · subst e; rw [HX.out, HY.out]
                  · exact HJ.out j (by omega)
                case measure => simp [intOf]; omega
              · have HE := Lib.hid he
                have e' : ¬ (x.1 = y.1 ∧ x.2.1 = y.2.1 ∧ x.2.2 = y.2.2) := fun h => he (Prod.ext h.1 (Prod.ext h.2.1 h.2.2))
                clear he
                have HR : Hid (sameG a b = false) := sameG_ne fun e => HE.out (by
                  have h1 := HX.out
                  have h2 := HY.out
                  rw [e, h2] at h1
                  injection h1 with h1
                  exact h1.symm)
                by_cases d1 : x.1 = y.1
                · by_cases d2 : x.2.1 = y.2.1
                  · have d3 : ¬ x.2.2 = y.2.2 := fun h => e' ⟨d1, d2, h⟩
                    clear e'
                    go_wp2_with fail
                    go_quiet (fail)
                    go_wp2_with fail
                    go_ret
                    exact ⟨ret_bool HR.out.symm, below_drewN hbr _⟩
                  · clear e'
                    go_wp2_with fail
                    go_quiet (fail)
                    go_wp2_with fail
                    go_ret
                    exact ⟨ret_bool HR.out.symm, below_drewN hbr _⟩
                · clear e'
                  go_wp2_with fail
                  go_quiet (fail)
                  go_wp2_with fail
                  go_ret
                  exact ⟨ret_bool HR.out.symm, below_drewN hbr _⟩
            · obtain rfl : n2 = k := by omega
              have HE : Hid (a.2 = b.2) := list_ext HA2.out HL2.out HJ.out
              go_wp2_with fail
              go_ret
              exact ⟨ret_bool (by rw [show a = b from Prod.ext HV.out HE.out, sameG_self]), hbr⟩
    · have q1 : ((n1 : Int) != m1) = false := by simp [e1]
      have q2 : ((n2 : Int) != m2) = true := by rw [bne_iff_ne]; omega
      have HR : Hid (sameG a b = false) := sameG_ne fun e => e2 (by rw [← la2, ← lb2, e])
      clear e1 e2
      go_enter Try.func36, Try.ntmps36
      go_wp2_with fail
      go_ret
      exact ⟨ret_bool HR.out.symm, HB0.out⟩
  · have q1 : ((n1 : Int) != m1) = true := by rw [bne_iff_ne]; omega
    have HR : Hid (sameG a b = false) := sameG_ne fun e => e1 (by rw [← la1, ← lb1, e])
    clear e1
    go_enter Try.func36, Try.ntmps36
    go_wp2_with fail
    go_ret
    exact ⟨ret_bool HR.out.symm, HB0.out⟩
end Go.Proofs.Ytklmckbpbloonaa
