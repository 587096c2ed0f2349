/- Parts of the proof: LawUT. -/
import Derived.Test.YtklmckbpbloonaaUT40
namespace Go.Proofs.Ytklmckbpbloonaa
open Go.RowKit

/-- A block with a graph. -/
structure ResAt (w : World) (g : Nat) (A : Option Addr) (n c : Nat) (A' : Option Addr) (n' c' : Nat) (G : Gph) : Prop where
  blk : Blk w g 25 #[.slice A n c, .slice A' n' c']
  u : RdU w w.heap.size A n c G.1
  e : RdE w w.heap.size A' n' c' G.2
section
variable {w w' : World} {g n c n' c' : Nat} {A A' : Option Addr} {G : Gph}
theorem ResAt.on (h : ResAt w g A n c A' n' c' G) (hb : Below w.heap.size w w') : ResAt w' g A n c A' n' c' G :=
  ⟨h.blk.below hb h.blk.lt, (h.u.below hb).more hb.size, (h.e.below hb).more hb.size⟩
theorem ResAt.alloc (h : ResAt w g A n c A' n' c' G) (x : Obj) : ResAt (w.alloc x) g A n c A' n' c' G := h.on ((Below.refl _ _).alloc (Nat.le_refl _) x)
theorem ResAt.new (h1 : RdU w w.heap.size A n c G.1) (h2 : RdE w w.heap.size A' n' c' G.2) : ResAt (w.alloc (.cells #[.slice A n c, .slice A' n' c'] 25)) w.heap.size A n c A' n' c' G :=
  have hb := (Below.refl w.heap.size w).alloc (Nat.le_refl _) (.cells #[.slice A n c, .slice A' n' c'] 25)
  ⟨Blk.new w _ _, (h1.below hb).more hb.size, (h2.below hb).more hb.size⟩
end
set_option maxRecDepth 100000 in
set_option maxHeartbeats 4000000 in
theorem unionTurns_any (vb vo vt : Value) (b o t : Gph) (w : World) (hb : RdG w w.heap.size vb b) (ho : RdG w w.heap.size vo o) (ht : RdG w w.heap.size vt t) :
    Calls Try.prog 7 #[vb, vo, vt] w fun e w' => e = .returned (.bool true) ∧ Below w.heap.size w w' := by
  obtain ⟨Ab, nb, cb, Ab', nb', cb', rfl, hb1, hb2⟩ := hb
  obtain ⟨Ao, no, co, Ao', no', co', rfl, ho1, ho2⟩ := ho
  obtain ⟨At, nt, ct, At', nt', ct', rfl, ht1, ht2⟩ := ht
  have HF0 := Lib.hid (LwFr.first w (.slice Ab nb cb) (.slice Ab' nb' cb') (.slice Ao no co) (.slice Ao' no' co') (.slice At nt ct) (.slice At' nt' ct'))
  have HRD : Hid (∀ W : World, Below w.heap.size w W → RdU W w.heap.size Ab nb cb b.1 ∧ RdE W w.heap.size Ab' nb' cb' b.2 ∧ RdU W w.heap.size Ao no co o.1 ∧ RdE W w.heap.size Ao' no' co' o.2 ∧ RdU W w.heap.size At nt ct t.1 ∧ RdE W w.heap.size At' nt' ct' t.2) :=
    fun W h => ⟨hb1.below h, hb2.below h, ho1.below h, ho2.below h, ht1.below h, ht2.below h⟩
  clear hb1 hb2 ho1 ho2 ht1 ht2
  go_enter Try.func7, Try.ntmps7
  go_wp2_with fail
  refine (awake18 _).mono ?_
  rintro e w1 ⟨rfl, k1⟩
  have HF1 := Lib.hid (HF0.out.on k1)
  obtain ⟨b0, b1⟩ := HF1.out.b.c2
  obtain ⟨o0, o1⟩ := HF1.out.o.c2
  obtain ⟨t0, t1⟩ := HF1.out.t.c2
  have hz1 := HF1.out.size
  have HG := Lib.hid (Blk.new w1 25 #[.slice Ab nb cb, .slice Ab' nb' cb', .slice Ao no co, .slice Ao' no' co', .slice At nt ct, .slice At' nt' ct'])
  have HF2 := Lib.hid (HF1.out.alloc (.cells #[.slice Ab nb cb, .slice Ab' nb' cb', .slice Ao no co, .slice Ao' no' co', .slice At nt ct, .slice At' nt' ct'] 25))
  clear k1 HF0 HF1
  go_wp2_with fail
  go_loopw [8, 28] (fun _ i wr => ∃ k : Nat, k ≤ 3 ∧ i = .int .i64 k ∧ Hid (∀ j g, j < k → [b, o, t][j]? = some g → okG g) ∧ LwFr w wr (.slice Ab nb cb) (.slice Ab' nb' cb') (.slice Ao no co) (.slice Ao' no' co') (.slice At nt ct) (.slice At' nt' ct') ∧ Blk wr w1.heap.size 25 #[.slice Ab nb cb, .slice Ab' nb' cb', .slice Ao no co, .slice Ao' no' co', .slice At nt ct, .slice At' nt' ct']) (fun _ i _ => 3 - (intOf i).toNat)
  case atStart => exact ⟨0, by omega, rfl, fun j g hj => absurd hj (by omega), HF2.out, HG.out⟩
  case round =>
    clear HF2 HG b0 b1 o0 o1 t0 t1
    obtain ⟨k, hk, rfl, HJ, hF, hG⟩ := hrel
    by_cases hlt : k < 3
    · obtain ⟨r1, r2, r3, r4, r5, r6⟩ := HRD.out wr hF.below
      obtain ⟨A, n, c, A', n', c', g, h0, h1, h2, h3, hg⟩ := three_at hG r1 r2 r3 r4 r5 r6 hlt
      have hgl := hG.lt
      have hlt' : (k : Int) < 3 := by omega
      have HR2 := Lib.hid h2
      have HR3 := Lib.hid h3
      have HGG := Lib.hid hg
      have hB1 := (Below.refl wr.heap.size wr).alloc (Nat.le_refl _) (.cells #[.slice A n c, .slice A' n' c'] 25)
      have HF3 := Lib.hid (hF.on hB1)
      have HG3 := Lib.hid (hG.below hB1 hgl)
      have HX3 := Lib.hid (Blk.new wr 25 #[.slice A n c, .slice A' n' c'])
      have HB3 := Lib.hid hB1
      have hbl := hF.below.size
      have hlen := h3.len
      have HLEN := Lib.hid hlen
      clear r1 r2 r3 r4 r5 r6 h2 h3 hg hF hG hB1 hlen
      go_wp2_with fail
      refine (rcheck_any w.heap.size _ _ _ _ _ _ g.1 g.2 _ (HR2.out.below (HB3.out.mono hbl)) (HR3.out.below (HB3.out.mono hbl)) (by simp; omega)).mono ?_
      rintro e w2 ⟨rfl, k2⟩
      have HF4 := Lib.hid (HF3.out.on k2)
      have HG4 := Lib.hid (HG3.out.below k2 HG3.out.lt)
      have hX4 := HX3.out.below k2 HX3.out.lt
      obtain ⟨x0, x1⟩ := hX4.c2
      have hxl := hX4.lt
      clear k2 hX4 HF3 HG3 HX3 HB3 h0 h1
      by_cases hgc : gcheck g.1 g.2 = 0
      · have hgc' : (gcheck g.1 g.2 != 0) = false := by simp [hgc]
        have HGC := Lib.hid hgc
        rw [hgc]
        by_cases h60 : 60 < n'
        · have h60' : (60 : Int) < n' := by omega
          clear hgc hgc'
          go_wp2_with fail
          go_ret
          exact ⟨rfl, HF4.out.below⟩
        · have h60' : decide ((60 : Int) < n') = false := by simp; omega
          clear hgc hgc'
          go_wp2_with fail
          go_roundw
          case rel =>
            refine ⟨k + 1, by omega, by go_num, fun j g' hj hg' => ?_, HF4.out, HG4.out⟩
            by_cases e : j = k
            · rw [e, HGG.out] at hg'
              injection hg' with hg'
              rw [← hg']
              exact ⟨HGC.out, by rw [HLEN.out]; omega⟩
            · exact HJ.out j g' (by omega) hg'
          case measure => simp [intOf]; omega
      · have hgc' : (gcheck g.1 g.2 != 0) = true := by simp [hgc]
        clear hgc
        go_wp2_with fail
        go_ret
        exact ⟨rfl, HF4.out.below⟩
    · obtain rfl : k = 3 := by omega
      have HOB : Hid (okG b) := HJ.out 0 b (by omega) rfl
      have HOO : Hid (okG o) := HJ.out 1 o (by omega) rfl
      have HOT : Hid (okG t) := HJ.out 2 t (by omega) rfl
      obtain ⟨b0, b1⟩ := hF.b.c2
      obtain ⟨o0, o1⟩ := hF.o.c2
      obtain ⟨t0, t1⟩ := hF.t.c2
      have hFs := hF.size
      have HF5 := Lib.hid hF
      clear HJ hF hG
      go_wp2_with fail
      have HTW : Hid (unR b t o = unR b o t) := (unR_swap HOO.out.fit HOT.out.fit).symm
      have HOW1 : Hid (unR b o b = (o, 0, 0)) := unR_ours HOB.out.fit HOO.out.fit
      have HOW2 : Hid (unR b b t = (t, 0, 0)) := unR_theirs HOB.out.fit HOT.out.fit
      obtain ⟨r1, r2, r3, r4, r5, r6⟩ := HRD.out _ HF5.out.below
      refine (uof_any w.heap.size _ _ _ b o b _ ⟨_, _, _, _, _, _, rfl, r1, r2⟩ ⟨_, _, _, _, _, _, rfl, r3, r4⟩ ⟨_, _, _, _, _, _, rfl, r1, r2⟩ HF5.out.below.size (unL_ids HOO.out.fit HOB.out.fit) HOO.out.l1 HOB.out.l1 HOO.out.l2 HOB.out.l2).mono ?_
      rintro e v1 ⟨gv, rfl, ⟨A1, n1, c1, A1', n1', c1', rfl, p1, p2⟩, k2⟩
      rw [HOW1.out] at p1 p2
      rw [HOW1.out]
      have hF6 := HF5.out.on k2
      have HF6 := Lib.hid (hF6.alloc (.cells #[.slice A1 n1 c1, .slice A1' n1' c1'] 25))
      have R11 := Lib.hid (ResAt.new p1 p2)
      obtain ⟨b0, b1⟩ := hF6.b.c2
      obtain ⟨o0, o1⟩ := hF6.o.c2
      obtain ⟨t0, t1⟩ := hF6.t.c2
      have l0 := hF6.b.lt
      have l1 := hF6.o.lt
      have l2 := hF6.t.lt
      have hz1 := k2.size
      clear r1 r2 r3 r4 r5 r6 p1 p2 hF6 k2 HF5
      go_wp2_with fail
      obtain ⟨r1, r2, r3, r4, r5, r6⟩ := HRD.out _ HF6.out.below
      refine (uof_any w.heap.size _ _ _ b b t _ ⟨_, _, _, _, _, _, rfl, r1, r2⟩ ⟨_, _, _, _, _, _, rfl, r1, r2⟩ ⟨_, _, _, _, _, _, rfl, r5, r6⟩ HF6.out.below.size (unL_ids HOB.out.fit HOT.out.fit) HOB.out.l1 HOT.out.l1 HOB.out.l2 HOT.out.l2).mono ?_
      rintro e v2 ⟨gv, rfl, ⟨A2, n2, c2, A2', n2', c2', rfl, p1, p2⟩, k2⟩
      rw [HOW2.out] at p1 p2
      rw [HOW2.out]
      have hF6 := HF6.out.on k2
      have HF7 := Lib.hid (hF6.alloc (.cells #[.slice A2 n2 c2, .slice A2' n2' c2'] 25))
      have R22 := Lib.hid (ResAt.new p1 p2)
      have R12 := Lib.hid ((R11.out.on k2).alloc (.cells #[.slice A2 n2 c2, .slice A2' n2' c2'] 25))
      obtain ⟨b0, b1⟩ := hF6.b.c2
      obtain ⟨o0, o1⟩ := hF6.o.c2
      obtain ⟨t0, t1⟩ := hF6.t.c2
      have l0 := hF6.b.lt
      have l1 := hF6.o.lt
      have l2 := hF6.t.lt
      have hz2 := k2.size
      clear r1 r2 r3 r4 r5 r6 p1 p2 hF6 k2 HF6 R11
      go_wp2_with fail
      obtain ⟨r1, r2, r3, r4, r5, r6⟩ := HRD.out _ HF7.out.below
      refine (uof_any w.heap.size _ _ _ b o t _ ⟨_, _, _, _, _, _, rfl, r1, r2⟩ ⟨_, _, _, _, _, _, rfl, r3, r4⟩ ⟨_, _, _, _, _, _, rfl, r5, r6⟩ HF7.out.below.size (unL_ids HOO.out.fit HOT.out.fit) HOO.out.l1 HOT.out.l1 HOO.out.l2 HOT.out.l2).mono ?_
      rintro e v3 ⟨gv, rfl, ⟨A3, n3, c3, A3', n3', c3', rfl, p1, p2⟩, k2⟩
      have hF6 := HF7.out.on k2
      have HF8 := Lib.hid (hF6.alloc (.cells #[.slice A3 n3 c3, .slice A3' n3' c3'] 25))
      have R33 := Lib.hid (ResAt.new p1 p2)
      have R13 := Lib.hid ((R12.out.on k2).alloc (.cells #[.slice A3 n3 c3, .slice A3' n3' c3'] 25))
      have R23 := Lib.hid ((R22.out.on k2).alloc (.cells #[.slice A3 n3 c3, .slice A3' n3' c3'] 25))
      obtain ⟨b0, b1⟩ := hF6.b.c2
      obtain ⟨o0, o1⟩ := hF6.o.c2
      obtain ⟨t0, t1⟩ := hF6.t.c2
      have l0 := hF6.b.lt
      have l1 := hF6.o.lt
      have l2 := hF6.t.lt
      have hz3 := k2.size
      clear r1 r2 r3 r4 r5 r6 p1 p2 hF6 k2 HF7 R12 R22
      obtain ⟨RG, hRG⟩ : ∃ RG, (unR b o t).1 = RG := ⟨_, rfl⟩
      obtain ⟨RI, hRI⟩ : ∃ RI, (unR b o t).2.1 = RI := ⟨_, rfl⟩
      obtain ⟨RN, hRN⟩ : ∃ RN, (unR b o t).2.2 = RN := ⟨_, rfl⟩
      have HRR : Hid ((unR b o t).1 = RG ∧ (unR b o t).2.1 = RI ∧ (unR b o t).2.2 = RN) := ⟨hRG, hRI, hRN⟩
      rw [hRG] at R33
      rw [hRI, hRN]
      clear hRG hRI hRN
      go_wp2_with fail
      obtain ⟨r1, r2, r3, r4, r5, r6⟩ := HRD.out _ HF8.out.below
      refine (uof_any w.heap.size _ _ _ b t o _ ⟨_, _, _, _, _, _, rfl, r1, r2⟩ ⟨_, _, _, _, _, _, rfl, r5, r6⟩ ⟨_, _, _, _, _, _, rfl, r3, r4⟩ HF8.out.below.size (unL_ids HOT.out.fit HOO.out.fit) HOT.out.l1 HOO.out.l1 HOT.out.l2 HOO.out.l2).mono ?_
      rintro e v4 ⟨gv, rfl, ⟨A4, n4, c4, A4', n4', c4', rfl, p1, p2⟩, k2⟩
      rw [HTW.out, HRR.out.1] at p1 p2
      rw [HTW.out, HRR.out.2.1, HRR.out.2.2]
      have hF6 := HF8.out.on k2
      have HF9 := Lib.hid (hF6.alloc (.cells #[.slice A4 n4 c4, .slice A4' n4' c4'] 25))
      have R44 := Lib.hid (ResAt.new p1 p2)
      have R14 := Lib.hid ((R13.out.on k2).alloc (.cells #[.slice A4 n4 c4, .slice A4' n4' c4'] 25))
      have R24 := Lib.hid ((R23.out.on k2).alloc (.cells #[.slice A4 n4 c4, .slice A4' n4' c4'] 25))
      have R34 := Lib.hid ((R33.out.on k2).alloc (.cells #[.slice A4 n4 c4, .slice A4' n4' c4'] 25))
      obtain ⟨b0, b1⟩ := hF6.b.c2
      obtain ⟨o0, o1⟩ := hF6.o.c2
      obtain ⟨t0, t1⟩ := hF6.t.c2
      have l0 := hF6.b.lt
      have l1 := hF6.o.lt
      have l2 := hF6.t.lt
      have hz4 := k2.size
      clear r1 r2 r3 r4 r5 r6 p1 p2 hF6 k2 HF8 R13 R23 R33
      obtain ⟨x10, x11⟩ := R14.out.blk.c2
      have x1l := R14.out.blk.lt
      obtain ⟨fb0, fb1⟩ := HF9.out.o.c2
      have fbl := HF9.out.o.lt
      clear b0 b1 o0 o1 t0 t1 l0 l1 l2
      go_wp2_with fail
      obtain ⟨r1, r2, r3, r4, r5, r6⟩ := HRD.out _ HF9.out.below
      have z9 := HF9.out.below.size
      refine (rsameG_any _ _ _ o o _ ⟨_, _, _, _, _, _, rfl, R14.out.u, R14.out.e⟩ ⟨_, _, _, _, _, _, rfl, r3.more z9, r4.more z9⟩ (Nat.le_refl _)).mono ?_
      rintro e w5 ⟨rfl, k5⟩
      rw [sameG_self]
      have HFA := Lib.hid (HF9.out.on k5)
      have R25 := Lib.hid (R24.out.on k5)
      have R35 := Lib.hid (R34.out.on k5)
      have R45 := Lib.hid (R44.out.on k5)
      obtain ⟨x20, x21⟩ := R25.out.blk.c2
      have x2l := R25.out.blk.lt
      obtain ⟨fc0, fc1⟩ := HFA.out.t.c2
      have fcl := HFA.out.t.lt
      clear r1 r2 r3 r4 r5 r6 z9 k5 HF9 R14 R24 R34 R44 x10 x11 x1l fb0 fb1 fbl
      go_wp2_with fail
      obtain ⟨r1, r2, r3, r4, r5, r6⟩ := HRD.out _ HFA.out.below
      have z9 := HFA.out.below.size
      refine (rsameG_any _ _ _ t t _ ⟨_, _, _, _, _, _, rfl, R25.out.u, R25.out.e⟩ ⟨_, _, _, _, _, _, rfl, r5.more z9, r6.more z9⟩ (Nat.le_refl _)).mono ?_
      rintro e w6 ⟨rfl, k6⟩
      rw [sameG_self]
      have HFB := Lib.hid (HFA.out.on k6)
      have R36 := Lib.hid (R35.out.on k6)
      have R46 := Lib.hid (R45.out.on k6)
      obtain ⟨x30, x31⟩ := R36.out.blk.c2
      have x3l := R36.out.blk.lt
      obtain ⟨x40, x41⟩ := R46.out.blk.c2
      have x4l := R46.out.blk.lt
      clear r1 r2 r3 r4 r5 r6 z9 k6 HFA R25 R35 R45 x20 x21 x2l fc0 fc1 fcl
      go_wp2_with fail
      refine (rsameG_any _ _ _ RG RG _ ⟨_, _, _, _, _, _, rfl, R36.out.u, R36.out.e⟩ ⟨_, _, _, _, _, _, rfl, R46.out.u, R46.out.e⟩ (Nat.le_refl _)).mono ?_
      rintro e w7 ⟨rfl, k7⟩
      rw [sameG_self]
      go_wp2_with fail
      go_ret
      exact ⟨rfl, HFB.out.below.trans (k7.mono HFB.out.below.size)⟩
end Go.Proofs.Ytklmckbpbloonaa
