/- Parts of the proof: BkR. -/
import Derived.Test.YtklmckbpbloonaaBC44
import Derived.Test.YtklmckbpbloonaaBC45
import Derived.Test.YtklmckbpbloonaaBC29
namespace Go.Proofs.Ytklmckbpbloonaa
open Go.RowKit

def neV (v x : Int) : Bool := !(x == v)
theorem fltTo_ne (vs : List Int) (v : Int) {n : Nat} (hn : vs.length = n) : fltTo vs (neV v) n = lessV vs v := fltTo_all vs (neV v) hn
theorem fltE_ne (es : List Edg) (v : Int) {n : Nat} (hn : es.length = n) : fltE es (offV v) n = lessE es v := fltE_all es (offV v) hn
set_option maxRecDepth 100000 in
set_option maxHeartbeats 4000000 in
theorem rless_any (B : Nat) (A A' : Option Addr) (n c n' c' : Nat) (vs : List Int) (es : List Edg) (v : Int) (w : World) (h : RdU w B A n c vs) (h' : RdE w B A' n' c' es) (hn : n ≤ 1000000) (hn' : n' ≤ 1000000) (hB : B ≤ w.heap.size) :
    Calls Try.prog 142 #[.agg #[.slice A n c, .slice A' n' c'], .int .u32 v] w fun e w' => ∃ A1 c1 A2 c2, e = .returned (.agg #[.slice A1 (lessV vs v).length c1, .slice A2 (lessE es v).length c2]) ∧
      RdU w' w'.heap.size A1 (lessV vs v).length c1 (lessV vs v) ∧ RdE w' w'.heap.size A2 (lessE es v).length c2 (lessE es v) ∧ Below w.heap.size w w' := by
  have HL := Lib.hid h.len
  have HL' := Lib.hid h'.len
  have HB0 := Lib.hid ((((Below.refl w.heap.size w).alloc (Nat.le_refl _) (.cells #[.slice A n c, .slice A' n' c'] 25)).alloc (by simp) (.cells #[.slice none 0 0, .slice none 0 0] 25)).alloc (by simp; omega) (.cells #[.slice none 0 0, .slice none 0 0] 25))
  have HX0 := Lib.hid (((Blk.new w 25 #[.slice A n c, .slice A' n' c']).alloc (.cells #[.slice none 0 0, .slice none 0 0] 25)).alloc (.cells #[.slice none 0 0, .slice none 0 0] 25))
  have hR0 := (Blk.new (w.alloc (.cells #[.slice A n c, .slice A' n' c'] 25)) 25 #[.slice none 0 0, .slice none 0 0]).alloc (.cells #[.slice none 0 0, .slice none 0 0] 25)
  have hO0 := Blk.new ((w.alloc (.cells #[.slice A n c, .slice A' n' c'] 25)).alloc (.cells #[.slice none 0 0, .slice none 0 0] 25)) 25 #[.slice none 0 0, .slice none 0 0]
  simp only [World.size_alloc] at hR0 hO0
  have HR0 := Lib.hid hR0
  have HO0 := Lib.hid hO0
  obtain ⟨hnc, hcc⟩ := h.bd
  obtain ⟨hnc', hcc'⟩ := h'.bd
  clear hR0 hO0
  go_enter Try.func142, Try.ntmps142
  go_wp2_with fail
  go_loopw [13] (fun i wr => ∃ (k : Nat) (r : Option Nat) (A1 : Option Addr) (c1 : Nat), k ≤ n ∧ i = .int .i64 k ∧ OwnU wr r A1 (fltN vs (neV v) k) c1 (fltTo vs (neV v) k) ∧ (∀ g, r = some g → w.heap.size + 3 ≤ g) ∧ Below w.heap.size w wr ∧ Blk wr w.heap.size 25 #[.slice A n c, .slice A' n' c'] ∧ Blk wr (w.heap.size + 1) 25 #[.slice none 0 0, .slice none 0 0] ∧ Blk wr (w.heap.size + 2) 25 #[.slice A1 (fltN vs (neV v) k) c1, .slice none 0 0]) (fun i _ => n - (intOf i).toNat)
  case atStart => exact ⟨0, none, none, 0, by omega, rfl, by simpa [fltN, fltTo] using OwnU.nil_ _ _, by simp, HB0.out, HX0.out, HR0.out, by simpa [fltN, fltTo] using HO0.out⟩
  case round =>
    clear HB0 HX0 HR0 HO0
    obtain ⟨k, r, A1, c1, hk, rfl, hown, hr, hbr, hX, hR, hO⟩ := hrel
    have hle := fltN_le vs (neV v) k
    by_cases hlt : k < n
    · obtain ⟨ad, x, rfl, hbl, hx, hxb, hc1⟩ := (h.below (hbr.mono hB)).at_ hlt
      have HN : Hid (fltN vs (neV v) (k + 1) = fltN vs (neV v) k + if neV v x then 1 else 0) := fltN_succ hx
      have HT : Hid (fltTo vs (neV v) (k + 1) = fltTo vs (neV v) k ++ if neV v x then [x] else []) := fltTo_succ hx
      have HOW := Lib.hid hown
      have HX := Lib.hid hX
      have HR := Lib.hid hR
      have HO := Lib.hid hO
      have HB := Lib.hid hbr
      obtain ⟨o0, o1⟩ := hO.c2
      have hol := hO.lt
      clear hx hown hX hR hO hbr
      cases hp : (x != v)
      · have HP : Hid (neV v x = false) := hp
        go_wp2_with fail
        go_roundw
        case rel =>
          have hN := HN.out
          have hT := HT.out
          rw [HP.out] at hN hT
          simp only [Bool.false_eq_true, if_false, Nat.add_zero, List.append_nil] at hN hT
          exact ⟨k + 1, r, A1, c1, by omega, by go_num, by rw [hN, hT]; exact HOW.out, hr, HB.out, HX.out, HR.out, by rw [hN]; exact HO.out⟩
        case measure => simp [intOf]; omega
      · have HP : Hid (neV v x = true) := hp
        go_wp2_with (first
          | (at_builtin; refine appU1 rfl (.tmp 21) (.tmp 23) rfl _ r A1 _ c1 (fltTo vs (neV v) k) rfl (HOW.out.alloc (.cells #[.int .u32 x] 31)) wr.heap.size x rfl (Blk.new _ _ _) hxb (by omega) ?_; intro r3 A3 c3 w5 q1 q2 q3; have hO5 := (HO.out.alloc (.cells #[.int .u32 x] 31)).grown q2 (fun e => by have := hr _ e.symm; omega); obtain ⟨e0, e1⟩ := hO5.c2; have el := hO5.lt; have ef := hO5.frozen 0; have HO5 := Lib.hid hO5; clear hO5))
        go_roundw
        case rel =>
          have hN := HN.out
          have hT := HT.out
          rw [HP.out] at hN hT
          simp only [if_true] at hN hT
          have hr3 : ∀ g, r3 = some g → w.heap.size + 3 ≤ g := since_of (w := wr.alloc (.cells #[.int .u32 x] 31)) (w' := w5) (by simp; omega) hr q3
          have hB5 := (HB.out.alloc HB.out.size (.cells #[.int .u32 x] 31)).grown q2 (by have := HB.out.size; simp; omega) (fun g e => by have := hr g e; omega)
          have hX5 := (HX.out.alloc (.cells #[.int .u32 x] 31)).grown q2 (fun e => by have := hr _ e.symm; omega)
          have hR5 := (HR.out.alloc (.cells #[.int .u32 x] 31)).grown q2 (fun e => by have := hr _ e.symm; omega)
          exact ⟨k + 1, r3, A3, c3, by omega, by go_num, by rw [hN, hT]; exact q1.setCell_far (fun g e => by have := hr3 g e; simp; omega) _, hr3, hB5.setCell (by simp; omega) _, hX5.far (by simp <;> omega) _, hR5.far (by simp <;> omega) _, by rw [hN]; simpa using HO5.out.set_ 0 _⟩
        case measure => simp [intOf]; omega
    · obtain rfl : n = k := by omega
      have hT := fltTo_ne vs v HL.out
      have hN : fltN vs (neV v) n = (lessV vs v).length := by unfold fltN; rw [hT]
      rw [hN, hT] at hown
      rw [hN] at hO
      obtain ⟨wo, rfl⟩ : ∃ wo : World, wo = wr := ⟨_, rfl⟩
      have HOW := Lib.hid hown
      have HX := Lib.hid hX
      have HR := Lib.hid hR
      have HO := Lib.hid hO
      have HB := Lib.hid hbr
      obtain ⟨x0, x1⟩ := hX.c2
      have hxl := hX.lt
      have hoz := hO.lt
      clear hown hX hR hO hbr hN hT
      go_wp2_with fail
      go_loopw [30] (fun i wr => ∃ (q : Nat) (r2 : Option Nat) (A2 : Option Addr) (c2 : Nat), q ≤ n' ∧ i = .int .i64 q ∧ OwnE wr r2 A2 (fltEN es (offV v) q) c2 (fltE es (offV v) q) ∧ (∀ g, r2 = some g → wo.heap.size ≤ g) ∧ OwnU wr r A1 (lessV vs v).length c1 (lessV vs v) ∧ Below w.heap.size w wr ∧ wo.heap.size ≤ wr.heap.size ∧ Blk wr w.heap.size 25 #[.slice A n c, .slice A' n' c'] ∧ Blk wr (w.heap.size + 1) 25 #[.slice none 0 0, .slice none 0 0] ∧ Blk wr (w.heap.size + 2) 25 #[.slice A1 (lessV vs v).length c1, .slice A2 (fltEN es (offV v) q) c2]) (fun i _ => n' - (intOf i).toNat)
      case atStart => exact ⟨0, none, none, 0, by omega, rfl, by simpa [fltEN, fltE] using OwnE.nil_ _ _, by simp, HOW.out, HB.out, Nat.le_refl _, HX.out, HR.out, by simpa [fltEN, fltE] using HO.out⟩
      case round =>
        have HUL := Lib.hid HOW.out.lt
        clear HOW HX HR HO HB x0 x1 hxl
        obtain ⟨q, r2, A2, c2, hq, rfl, hown, hr2, hou, hbr, hsz, hX, hR, hO⟩ := hrel
        have hle2 := fltEN_le es (offV v) q
        by_cases hlt2 : q < n'
        · obtain ⟨ad, x, rfl, hbl, hx, hxb, hc1, hc2, hc3⟩ := (h'.below (hbr.mono hB)).at_ hlt2
          have HN : Hid (fltEN es (offV v) (q + 1) = fltEN es (offV v) q + if offV v x then 1 else 0) := fltEN_succ hx
          have HT : Hid (fltE es (offV v) (q + 1) = fltE es (offV v) q ++ if offV v x then [x] else []) := fltE_succ hx
          have HE := Lib.hid (hown.alloc (.cells #[.int .u32 x.1, .int .u32 x.2.1, .int .u32 x.2.2] 39))
          have HU := Lib.hid (hou.alloc (.cells #[.int .u32 x.1, .int .u32 x.2.1, .int .u32 x.2.2] 39))
          have HX := Lib.hid (hX.alloc (.cells #[.int .u32 x.1, .int .u32 x.2.1, .int .u32 x.2.2] 39))
          have HR := Lib.hid (hR.alloc (.cells #[.int .u32 x.1, .int .u32 x.2.1, .int .u32 x.2.2] 39))
          have hO2 := hO.alloc (.cells #[.int .u32 x.1, .int .u32 x.2.1, .int .u32 x.2.2] 39)
          have HO := Lib.hid hO2
          have HB := Lib.hid (hbr.alloc hbr.size (.cells #[.int .u32 x.1, .int .u32 x.2.1, .int .u32 x.2.2] 39))
          obtain ⟨o0, o1⟩ := hO.c2
          have hol := hO.lt
          clear hx hown hou hX hR hO hO2 hbr
          cases d1 : (x.2.1 != v)
          · have HP : Hid (offV v x = false) := by show _ = _; unfold offV; rw [d1]; rfl
            go_wp2_with fail
            go_roundw
            case rel =>
              have hN := HN.out
              have hT := HT.out
              rw [HP.out] at hN hT
              simp only [Bool.false_eq_true, if_false, Nat.add_zero, List.append_nil] at hN hT
              exact ⟨q + 1, r2, A2, c2, by omega, by go_num, by rw [hN, hT]; exact HE.out, hr2, HU.out, HB.out, by simp; omega, HX.out, HR.out, by rw [hN]; exact HO.out⟩
            case measure => simp [intOf]; omega
          · cases d2 : (x.2.2 != v)
            · have HP : Hid (offV v x = false) := by show _ = _; unfold offV; rw [d1, d2]; rfl
              go_wp2_with fail
              go_roundw
              case rel =>
                have hN := HN.out
                have hT := HT.out
                rw [HP.out] at hN hT
                simp only [Bool.false_eq_true, if_false, Nat.add_zero, List.append_nil] at hN hT
                exact ⟨q + 1, r2, A2, c2, by omega, by go_num, by rw [hN, hT]; exact HE.out, hr2, HU.out, HB.out, by simp; omega, HX.out, HR.out, by rw [hN]; exact HO.out⟩
              case measure => simp [intOf]; omega
            · have HP : Hid (offV v x = true) := by show _ = _; unfold offV; rw [d1, d2]; rfl
              go_wp2_with (first
                | (at_builtin; refine appE1 rfl (.tmp 45) (.tmp 47) rfl _ r2 A2 _ c2 (fltE es (offV v) q) rfl (HE.out.alloc (.cells #[.int .u32 x.1, .int .u32 x.2.1, .int .u32 x.2.2] 39)) (wr.heap.size + 1) x rfl (by have := Blk.new (wr.alloc (.cells #[.int .u32 x.1, .int .u32 x.2.1, .int .u32 x.2.2] 39)) 39 #[.int .u32 x.1, .int .u32 x.2.1, .int .u32 x.2.2]; simp only [World.size_alloc] at this; exact this) hxb (by omega) ?_; intro r3 A3 c3 w5 q1 q2 q3; have hO5 := (HO.out.alloc (.cells #[.int .u32 x.1, .int .u32 x.2.1, .int .u32 x.2.2] 39)).grown q2 (fun e => by have := hr2 _ e.symm; omega); obtain ⟨e0, e1⟩ := hO5.c2; have el := hO5.lt; have ef := hO5.frozen 1; have HO5 := Lib.hid hO5; clear hO5))
              go_roundw
              case rel =>
                have hN := HN.out
                have hT := HT.out
                rw [HP.out] at hN hT
                simp only [if_true] at hN hT
                have hr3 : ∀ g, r3 = some g → wo.heap.size ≤ g := since_of (w := (wr.alloc (.cells #[.int .u32 x.1, .int .u32 x.2.1, .int .u32 x.2.2] 39)).alloc (.cells #[.int .u32 x.1, .int .u32 x.2.1, .int .u32 x.2.2] 39)) (w' := w5) (by simp; omega) hr2 q3
                have hB5 := (HB.out.alloc HB.out.size (.cells #[.int .u32 x.1, .int .u32 x.2.1, .int .u32 x.2.2] 39)).grown q2 (by have := HB.out.size; simp at this ⊢; omega) (fun g e => by have := hr2 g e; omega)
                have hX5 := (HX.out.alloc (.cells #[.int .u32 x.1, .int .u32 x.2.1, .int .u32 x.2.2] 39)).grown q2 (fun e => by have := hr2 _ e.symm; omega)
                have hR5 := (HR.out.alloc (.cells #[.int .u32 x.1, .int .u32 x.2.1, .int .u32 x.2.2] 39)).grown q2 (fun e => by have := hr2 _ e.symm; omega)
                have hU5 := (HU.out.alloc (.cells #[.int .u32 x.1, .int .u32 x.2.1, .int .u32 x.2.2] 39)).kept q2 (by
                  cases hr1 : r with
                  | none => exact .inl rfl
                  | some g => right; intro e; have a := HUL.out g hr1; have b := hr2 g e.symm; omega)
                exact ⟨q + 1, r3, A3, c3, by omega, by go_num, by rw [hN, hT]; exact q1.setCell_far (fun g e => by have := hr3 g e; simp; omega) _, hr3, hU5.setCell_far (fun g e => by have := hr g e; simp; omega) _, hB5.setCell (by simp; omega) _, by have := q2.size; simp at this ⊢; omega, hX5.far (by simp <;> omega) _, hR5.far (by simp <;> omega) _, by rw [hN]; simpa using HO5.out.set_ 1 _⟩
              case measure => simp [intOf]; omega
        · obtain rfl : n' = q := by omega
          have hT := fltE_ne es v HL'.out
          have hN : fltEN es (offV v) n' = (lessE es v).length := by unfold fltEN; rw [hT]
          rw [hN, hT] at hown
          rw [hN] at hO
          obtain ⟨o0, o1⟩ := hO.c2
          have hol := hO.lt
          obtain ⟨g0, g1⟩ := hR.c2
          have f0 := hR.frozen 0
          have f1 := hR.frozen 1
          have hrl := hR.lt
          have HE := Lib.hid hown
          have HU := Lib.hid hou
          have HB := Lib.hid hbr
          clear hown hou hbr hX hR hO hN hT
          go_wp2_with fail
          refine bodyPost_ret (v := .agg #[.slice A1 (lessV vs v).length c1, .slice A2 (lessE es v).length c2]) (by simp [results, Try.results142, go_sem, g0, g1]) rfl ?_
          refine ⟨A1, c1, A2, c2, rfl, ?_, ?_, ?_⟩
          · exact ((HU.out.setCell_far (fun g e => by have := hr g e; simp; omega) _).setCell_far (fun g e => by have := hr g e; simp; omega) _).rd
          · exact ((HE.out.setCell_far (fun g e => by have := hr2 g e; simp; omega) _).setCell_far (fun g e => by have := hr2 g e; simp; omega) _).rd
          · exact (HB.out.setCell (by simp) _).setCell (by simp) _
end Go.Proofs.Ytklmckbpbloonaa
