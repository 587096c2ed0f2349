/- Parts of the proof: KeepB. -/
import Derived.Test.YtklmckbpbloonaaBC3
import Derived.Test.YtklmckbpbloonaaBC6
namespace Go.Proofs.Ytklmckbpbloonaa
open Go.RowKit

set_option maxRecDepth 100000 in
set_option maxHeartbeats 2000000 in
theorem keep2_any (B : Nat) (A A' : Option Addr) (n c n' c' : Nat) (vs : List Int) (es : List Edg) (p : Edg → Bool) (f : Nat) (caps : Array Value) (w : World) (h : RdU w B A n c vs) (h' : RdE w B A' n' c' es) (hn : n ≤ 1000000) (hn' : n' ≤ 1000000) (hB : B ≤ w.heap.size)
    (he : ∀ args W, (callFunc f args).run Try.prog W = .ok (.enter f args) W)
    (hf : ∀ (e : Edg) (W : World), Below w.heap.size w W → e ∈ es → Calls Try.prog f (#[.agg #[.int .u32 e.1, .int .u32 e.2.1, .int .u32 e.2.2]] ++ caps) W fun r w' => r = .returned (.bool (p e)) ∧ Below W.heap.size W w') :
    Calls Try.prog 25 #[.agg #[.slice A n c, .slice A' n' c'], .func (.func f) #[] caps] w fun e w' => ∃ r1 A1 c1 r2 A2 c2, e = .returned (.agg #[.slice A1 n c1, .slice A2 (keptN es p n') c2]) ∧
      OwnU w' r1 A1 n c1 vs ∧ OwnE w' r2 A2 (keptN es p n') c2 (keptTo es p n') ∧ Below w.heap.size w w' ∧ (∀ g, r1 = some g → w.heap.size ≤ g ∧ r2 ≠ some g) ∧ (∀ g, r2 = some g → w.heap.size ≤ g) := by
  obtain ⟨hnc', hc'⟩ := h'.bd
  have HL' := Lib.hid h'.len
  have HF := Lib.hid hf
  clear hf
  have hG := (Blk.new w 25 #[.slice A n c, .slice A' n' c']).alloc (.cells #[.slice none 0 0, .slice none 0 0] 25)
  have hR := Blk.new (w.alloc (.cells #[.slice A n c, .slice A' n' c'] 25)) 25 #[.slice none 0 0, .slice none 0 0]
  have hb := ((Below.refl w.heap.size w).alloc (Nat.le_refl _) (.cells #[.slice A n c, .slice A' n' c'] 25)).alloc (by simp) (.cells #[.slice none 0 0, .slice none 0 0] 25)
  simp only [World.size_alloc] at hR
  have HG := Lib.hid hG
  have HR := Lib.hid hR
  have HB := Lib.hid hb
  have H1 := Lib.hid (h.below (hb.mono hB))
  clear hG hR hb
  go_enter Try.func25, Try.ntmps25
  go_wp2_with (go_at_call 63; refine (cloneU B _ _ _ vs _ H1.out (by omega) (by simp; omega)).mono ?_; rintro e w1 ⟨r1, A1, c1, rfl, k1, k2, k3⟩; have hz1 := k2.size; simp only [World.size_alloc] at hz1 k2 k3; have hG1 := HG.out.below k2 (by omega); have hR1 := HR.out.below k2 (by omega); have hg1 := hG1.c2; have hgl := hG1.lt)
  have hb1 : Below w.heap.size w w1 := HB.out.trans (k2.mono (by omega))
  have hO1 := Blk.new w1 25 #[.slice A1 n c1, .slice none 0 0]
  have HS : Hid (Below w.heap.size w (w1.alloc (.cells #[.slice A1 n c1, .slice none 0 0] 25)) ∧ Blk (w1.alloc (.cells #[.slice A1 n c1, .slice none 0 0] 25)) w1.heap.size 25 #[.slice A1 n c1, .slice none 0 0] ∧
      OwnU (w1.alloc (.cells #[.slice A1 n c1, .slice none 0 0] 25)) r1 A1 n c1 vs ∧ Blk (w1.alloc (.cells #[.slice A1 n c1, .slice none 0 0] 25)) (w.heap.size + 1) 25 #[.slice none 0 0, .slice none 0 0]) :=
    ⟨hb1.alloc (by omega) _, hO1, k1.alloc _, hR1.alloc _⟩
  have HK1 : Hid (∀ g, r1 = some g → w.heap.size + 2 ≤ g ∧ g < w1.heap.size) := fun g e => ⟨by have := k3 g e; omega, k1.lt g e⟩
  clear hO1 k1 hG1 hR1 hg1 hgl HG HR HB H1 k2 k3 hb1 h
  go_loopw [15] (fun i wr => ∃ (k : Nat) (r2 : Option Nat) (A2 : Option Addr) (c2 : Nat), k ≤ n' ∧ i = .int .i64 k ∧ Below w.heap.size w wr ∧ Blk wr w1.heap.size 25 #[.slice A1 n c1, .slice A2 (keptN es p k) c2] ∧ OwnU wr r1 A1 n c1 vs ∧ OwnE wr r2 A2 (keptN es p k) c2 (keptTo es p k) ∧
    (∀ g, r2 = some g → w1.heap.size < g) ∧ Blk wr (w.heap.size + 1) 25 #[.slice none 0 0, .slice none 0 0]) (fun i _ => n' - (intOf i).toNat)
  case atStart => exact ⟨0, none, none, 0, by omega, rfl, HS.out.1, HS.out.2.1, HS.out.2.2.1, by simpa [keptN, keptTo] using OwnE.nil_ _ _, by simp, HS.out.2.2.2⟩
  case round =>
    clear HS
    obtain ⟨k, r2, A2, c2, hk, rfl, hbr, hO, hU, hE, hr2, hR⟩ := hrel
    have hq := h'.below (hbr.mono hB)
    have hol := hO.lt
    have hkn := keptN_le es p k
    by_cases hlt : k < n'
    · obtain ⟨ad, x, rfl, hbl, hx, hxb, hc1, hc2, hc3⟩ := hq.at_ hlt
      have hmem : x ∈ es := List.mem_of_getElem? hx
      have HN : Hid (keptN es p (k + 1) = keptN es p k + if p x then 1 else 0) := keptN_succ hx
      have HT : Hid (keptTo es p (k + 1) = keptTo es p k ++ if p x then [x] else []) := keptTo_succ hx
      clear hx
      have hbx := hbr.alloc hbr.size (.cells #[.int .u32 x.1, .int .u32 x.2.1, .int .u32 x.2.2] 39)
      have hX := Blk.new wr 39 #[.int .u32 x.1, .int .u32 x.2.1, .int .u32 x.2.2]
      have HX := Lib.hid hX
      have HBX := Lib.hid hbx
      have HO := Lib.hid (hO.alloc (.cells #[.int .u32 x.1, .int .u32 x.2.1, .int .u32 x.2.2] 39))
      have HU := Lib.hid (hU.alloc (.cells #[.int .u32 x.1, .int .u32 x.2.1, .int .u32 x.2.2] 39))
      have HE := Lib.hid (hE.alloc (.cells #[.int .u32 x.1, .int .u32 x.2.1, .int .u32 x.2.2] 39))
      have HRR := Lib.hid (hR.alloc (.cells #[.int .u32 x.1, .int .u32 x.2.1, .int .u32 x.2.2] 39))
      have hEl := hE.lt
      have hUl := hU.lt
      clear hbx hX hO hU hE hR
      cases hp : p x
      · have HP := Lib.hid hp
        clear hp
        go_wp2_with (show Calls Try.prog f _ _ _; refine (HF.out x _ HBX.out hmem).mono ?_; rintro r w2 ⟨rfl, hb2⟩; rw [HP.out])
        go_roundw
        case rel =>
          have hw2 : wr.heap.size + 1 ≤ w2.heap.size := by have := hb2.size; simpa using this
          have e1 : keptN es p (k + 1) = keptN es p k := by rw [HN.out, HP.out]; simp
          have e2 : keptTo es p (k + 1) = keptTo es p k := by rw [HT.out, HP.out]; simp
          refine ⟨k + 1, r2, A2, c2, by omega, by go_num, HBX.out.trans (hb2.mono (by have := hbr.size; simp; omega)), by rw [e1]; exact HO.out.below hb2 HO.out.lt, HU.out.below hb2 HU.out.lt, by rw [e1, e2]; exact HE.out.below hb2 HE.out.lt, hr2, HRR.out.below hb2 HRR.out.lt⟩
        case measure => simp [intOf]; omega
      · have HP := Lib.hid hp
        clear hp
        go_wp2_with (first
          | (show Calls Try.prog f _ _ _; refine (HF.out x _ HBX.out hmem).mono ?_; rintro r w2 ⟨rfl, hb2⟩; rw [HP.out]; have hO2 := HO.out.below hb2 HO.out.lt; have ho2 := hO2.c2; have hx2 := (HX.out.below hb2 HX.out.lt).c3; have hxl : wr.heap.size < w2.heap.size := (HX.out.below hb2 HX.out.lt).lt; have hol2 := hO2.lt; have hX3 := Lib.hid (Blk.new w2 39 #[.int .u32 x.1, .int .u32 x.2.1, .int .u32 x.2.2]); have HE2 := Lib.hid (HE.out.below hb2 HE.out.lt); have HO2 := Lib.hid hO2)
          | (at_builtin; refine appE1 rfl (.tmp 23) (.tmp 25) rfl _ r2 A2 _ c2 (keptTo es p k) rfl (HE2.out.alloc _) w2.heap.size x rfl hX3.out hxb (by omega) ?_; intro r3 A3 c3 w3 m1 m2 m3; have hO3 := (HO2.out.alloc (.cells #[.int .u32 x.1, .int .u32 x.2.1, .int .u32 x.2.2] 39)).grown m2 (fun e => absurd (hr2 _ e.symm) (by omega)); have ho3 := hO3.c2; have hf3 := hO3.frozen 1; have hl3 := hO3.lt))
        have e1 : keptN es p (k + 1) = keptN es p k + 1 := by rw [HN.out, HP.out]; simp
        have e2 : keptTo es p (k + 1) = keptTo es p k ++ [x] := by rw [HT.out, HP.out]; simp
        have hw2 : wr.heap.size + 1 ≤ w2.heap.size := by have := hb2.size; simpa using this
        have hbs := hbr.size
        have hr3 : ∀ g, r3 = some g → w1.heap.size < g := fun g e => by
          rcases m3 with h3 | h3
          · exact hr2 g (by rw [← h3, e])
          · have := h3 g e; simp at this; omega
        have hbw : Below w.heap.size w w3 := (((HBX.out.trans (hb2.mono (by simp; omega))).alloc (by omega) (.cells #[.int .u32 x.1, .int .u32 x.2.1, .int .u32 x.2.2] 39))).grown m2 (by simp; omega) (fun g e => by have := hr2 g e; omega)
        have hU3 : OwnU w3 r1 A1 n c1 vs := ((HU.out.below hb2 HU.out.lt).alloc (.cells #[.int .u32 x.1, .int .u32 x.2.1, .int .u32 x.2.2] 39)).kept m2 (by
          cases r1 with
          | none => exact .inl rfl
          | some g => right; intro e; have a1 := hr2 g e.symm; have a2 := (HK1.out g rfl).2; omega)
        have hR3 := ((HRR.out.below hb2 HRR.out.lt).alloc (.cells #[.int .u32 x.1, .int .u32 x.2.1, .int .u32 x.2.2] 39)).grown m2 (fun e => by have a1 := hr2 _ e.symm; omega)
        refine ⟨⟨k + 1, r3, A3, c3, by omega, by go_num, hbw.setCell (p := ⟨w1.heap.size, 1, none⟩) (by show w.heap.size ≤ w1.heap.size; omega) _, ?_, hU3.setCell_far (p := ⟨w1.heap.size, 1, none⟩) (fun g e => by have := (HK1.out g e).2; simp; omega) _, ?_, hr3, hR3.far (p := ⟨w1.heap.size, 1, none⟩) (by simp; omega) _⟩, by simp [intOf]; omega⟩
        · have := hO3.set_ 1 (.slice A3 (keptN es p k + 1) c3)
          rw [e1]
          simpa using this
        · rw [e1, e2]
          exact m1.setCell_far (p := ⟨w1.heap.size, 1, none⟩) (fun g e => by have := hr3 g e; simp; omega) _
    · obtain rfl : k = n' := by omega
      have hR0 := hR.lt
      obtain ⟨ho0, ho1⟩ := hO.c2
      obtain ⟨hr0, hr1⟩ := hR.c2
      have hfr0 := hR.frozen 0
      have hfr1 := hR.frozen 1
      go_wp2
      refine bodyPost_ret (v := .agg #[.slice A1 n c1, .slice A2 (keptN es p k) c2]) (by simp [results, Try.results25, go_sem, hr0, hr1]) rfl ?_
      refine ⟨r1, A1, c1, r2, A2, c2, rfl, ?_, ?_, ?_, fun g e => ⟨by have := (HK1.out g e).1; omega, fun e2 => by have a := hr2 g e2; have b := (HK1.out g e).2; omega⟩, fun g e => by have := hr2 g e; omega⟩
      · exact (hU.setCell_far (p := ⟨w.heap.size + 1, 0, none⟩) (fun g e => by have := (HK1.out g e).1; simp; omega) _).setCell_far (p := ⟨w.heap.size + 1, 1, none⟩) (fun g e => by have := (HK1.out g e).1; simp; omega) _
      · exact (hE.setCell_far (p := ⟨w.heap.size + 1, 0, none⟩) (fun g e => by have := hr2 g e; simp; omega) _).setCell_far (p := ⟨w.heap.size + 1, 1, none⟩) (fun g e => by have := hr2 g e; simp; omega) _
      · exact (hbr.setCell (p := ⟨w.heap.size + 1, 0, none⟩) (by simp) _).setCell (p := ⟨w.heap.size + 1, 1, none⟩) (by simp) _
end Go.Proofs.Ytklmckbpbloonaa
