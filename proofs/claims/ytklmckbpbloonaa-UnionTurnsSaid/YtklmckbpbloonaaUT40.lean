/- Parts of the proof: LawUO. -/
import Derived.Test.YtklmckbpbloonaaUT16
import Derived.Test.YtklmckbpbloonaaUT38
import Derived.Test.YtklmckbpbloonaaUT39
namespace Go.Proofs.Ytklmckbpbloonaa
open Go.RowKit

/-- The blocks of the law's own: the three graphs. -/
structure LwFr (w w' : World) (b1 b2 o1 o2 t1 t2 : Value) : Prop where
  b : Blk w' w.heap.size 25 #[b1, b2]
  o : Blk w' (w.heap.size + 1) 25 #[o1, o2]
  t : Blk w' (w.heap.size + 2) 25 #[t1, t2]
  below : Below w.heap.size w w'
  size : w.heap.size + 3 ≤ w'.heap.size
section
variable {w w' w'' : World} {b1 b2 o1 o2 t1 t2 : Value}
theorem LwFr.on (h : LwFr w w' b1 b2 o1 o2 t1 t2) (hb : Below w'.heap.size w' w'') : LwFr w w'' b1 b2 o1 o2 t1 t2 :=
  ⟨h.b.below hb h.b.lt, h.o.below hb h.o.lt, h.t.below hb h.t.lt, h.below.trans (hb.mono h.below.size), by have := h.size; have := hb.size; omega⟩
theorem LwFr.alloc (h : LwFr w w' b1 b2 o1 o2 t1 t2) (x : Obj) : LwFr w (w'.alloc x) b1 b2 o1 o2 t1 t2 := h.on ((Below.refl _ _).alloc (Nat.le_refl _) x)
theorem LwFr.first (w : World) (b1 b2 o1 o2 t1 t2 : Value) : LwFr w (((w.alloc (.cells #[b1, b2] 25)).alloc (.cells #[o1, o2] 25)).alloc (.cells #[t1, t2] 25)) b1 b2 o1 o2 t1 t2 := by
  have q1 := Blk.new (w.alloc (.cells #[b1, b2] 25)) 25 #[o1, o2]
  have q2 := Blk.new ((w.alloc (.cells #[b1, b2] 25)).alloc (.cells #[o1, o2] 25)) 25 #[t1, t2]
  simp only [World.size_alloc] at q1 q2
  exact ⟨((Blk.new w _ _).alloc _).alloc _, q1.alloc _, q2, (((Below.refl _ w).alloc (Nat.le_refl _) _).alloc (by simp) _).alloc (by simp; omega) _, by simp⟩
end
/-- A graph that the laws of layer 18 go through. -/
def okG (g : Gph) : Prop := gcheck g.1 g.2 = 0 ∧ g.2.length ≤ 60
theorem okG.fit {g : Gph} (h : okG g) : Fit g.1 g.2 := gcheck_zero h.1
theorem okG.l1 {g : Gph} (h : okG g) : g.1.length ≤ 1000 := by have := h.fit.nv; omega
theorem okG.l2 {g : Gph} (h : okG g) : g.2.length ≤ 1000 := by have := h.2; omega
/-- Of three graphs in a row the k-th. -/
theorem three_at {w : World} {B gs : Nat} {b o t : Gph} {Ab Ab' Ao Ao' At At' : Option Addr} {nb cb nb' cb' no co no' co' nt ct nt' ct' : Nat}
    (h : Blk w gs 25 #[.slice Ab nb cb, .slice Ab' nb' cb', .slice Ao no co, .slice Ao' no' co', .slice At nt ct, .slice At' nt' ct'])
    (hb1 : RdU w B Ab nb cb b.1) (hb2 : RdE w B Ab' nb' cb' b.2) (ho1 : RdU w B Ao no co o.1) (ho2 : RdE w B Ao' no' co' o.2) (ht1 : RdU w B At nt ct t.1) (ht2 : RdE w B At' nt' ct' t.2) {k : Nat} (hk : k < 3) :
    ∃ A n c A' n' c' g, w.cell? ⟨gs, k * 2, none⟩ = some (.slice A n c) ∧ w.cell? ⟨gs, k * 2 + 1, none⟩ = some (.slice A' n' c') ∧ RdU w B A n c g.1 ∧ RdE w B A' n' c' g.2 ∧ [b, o, t][k]? = some g := by
  rcases (show k = 0 ∨ k = 1 ∨ k = 2 by omega) with rfl | rfl | rfl
  · exact ⟨_, _, _, _, _, _, b, h.cell 0, h.cell 1, hb1, hb2, rfl⟩
  · exact ⟨_, _, _, _, _, _, o, h.cell 2, h.cell 3, ho1, ho2, rfl⟩
  · exact ⟨_, _, _, _, _, _, t, h.cell 4, h.cell 5, ht1, ht2, rfl⟩
set_option maxRecDepth 100000 in
set_option maxHeartbeats 4000000 in
theorem unionOf_any (vb vo vt : Value) (b o t : Gph) (w : World) (hb : RdG w w.heap.size vb b) (ho : RdG w w.heap.size vo o) (ht : RdG w w.heap.size vt t) :
    Calls Try.prog 6 #[vb, vo, vt] w fun e w' => e = .returned (.bool true) ∧ Below w.heap.size w w' := by
  obtain ⟨Ab, nb, cb, Ab', nb', cb', rfl, hb1, hb2⟩ := hb
  obtain ⟨Ao, no, co, Ao', no', co', rfl, ho1, ho2⟩ := ho
  obtain ⟨At, nt, ct, At', nt', ct', rfl, ht1, ht2⟩ := ht
  have HF0 := Lib.hid (LwFr.first w (.slice Ab nb cb) (.slice Ab' nb' cb') (.slice Ao no co) (.slice Ao' no' co') (.slice At nt ct) (.slice At' nt' ct'))
  have HRD : Hid (∀ W : World, Below w.heap.size w W → RdU W w.heap.size Ab nb cb b.1 ∧ RdE W w.heap.size Ab' nb' cb' b.2 ∧ RdU W w.heap.size Ao no co o.1 ∧ RdE W w.heap.size Ao' no' co' o.2 ∧ RdU W w.heap.size At nt ct t.1 ∧ RdE W w.heap.size At' nt' ct' t.2) :=
    fun W h => ⟨hb1.below h, hb2.below h, ho1.below h, ho2.below h, ht1.below h, ht2.below h⟩
  clear hb1 hb2 ho1 ho2 ht1 ht2
  go_enter Try.func6, Try.ntmps6
  go_wp2_with fail
  refine (awake18 _).mono ?_
  rintro e w1 ⟨rfl, k1⟩
  have HF1 := Lib.hid (HF0.out.on k1)
  obtain ⟨b0, b1⟩ := HF1.out.b.c2
  obtain ⟨o0, o1⟩ := HF1.out.o.c2
  obtain ⟨t0, t1⟩ := HF1.out.t.c2
  have hz1 := HF1.out.size
  have HG := Lib.hid (Blk.new w1 25 #[.slice Ab nb cb, .slice Ab' nb' cb', .slice Ao no co, .slice Ao' no' co', .slice At nt ct, .slice At' nt' ct'])
  have HF2 := Lib.hid (HF1.out.alloc (.cells #[.slice Ab nb cb, .slice Ab' nb' cb', .slice Ao no co, .slice Ao' no' co', .slice At nt ct, .slice At' nt' ct'] 25))
  clear k1 HF0 HF1
  go_wp2_with fail
  go_loopw [8, 22] (fun _ i wr => ∃ k : Nat, k ≤ 3 ∧ i = .int .i64 k ∧ Hid (∀ j g, j < k → [b, o, t][j]? = some g → okG g) ∧ LwFr w wr (.slice Ab nb cb) (.slice Ab' nb' cb') (.slice Ao no co) (.slice Ao' no' co') (.slice At nt ct) (.slice At' nt' ct') ∧ Blk wr w1.heap.size 25 #[.slice Ab nb cb, .slice Ab' nb' cb', .slice Ao no co, .slice Ao' no' co', .slice At nt ct, .slice At' nt' ct']) (fun _ i _ => 3 - (intOf i).toNat)
  case atStart => exact ⟨0, by omega, rfl, fun j g hj => absurd hj (by omega), HF2.out, HG.out⟩
  case round =>
    clear HF2 HG b0 b1 o0 o1 t0 t1
    obtain ⟨k, hk, rfl, HJ, hF, hG⟩ := hrel
    by_cases hlt : k < 3
    · obtain ⟨r1, r2, r3, r4, r5, r6⟩ := HRD.out wr hF.below
      obtain ⟨A, n, c, A', n', c', g, h0, h1, h2, h3, hg⟩ := three_at hG r1 r2 r3 r4 r5 r6 hlt
      have hgl := hG.lt
      have hlt' : (k : Int) < 3 := by omega
      have HR2 := Lib.hid h2
      have HR3 := Lib.hid h3
      have HGG := Lib.hid hg
      have hB1 := (Below.refl wr.heap.size wr).alloc (Nat.le_refl _) (.cells #[.slice A n c, .slice A' n' c'] 25)
      have HF3 := Lib.hid (hF.on hB1)
      have HG3 := Lib.hid (hG.below hB1 hgl)
      have HX3 := Lib.hid (Blk.new wr 25 #[.slice A n c, .slice A' n' c'])
      have HB3 := Lib.hid hB1
      have hbl := hF.below.size
      have hlen := h3.len
      have HLEN := Lib.hid hlen
      clear r1 r2 r3 r4 r5 r6 h2 h3 hg hF hG hB1 hlen
      go_wp2_with fail
      refine (rcheck_any w.heap.size _ _ _ _ _ _ g.1 g.2 _ (HR2.out.below (HB3.out.mono hbl)) (HR3.out.below (HB3.out.mono hbl)) (by simp; omega)).mono ?_
      rintro e w2 ⟨rfl, k2⟩
      have HF4 := Lib.hid (HF3.out.on k2)
      have HG4 := Lib.hid (HG3.out.below k2 HG3.out.lt)
      have hX4 := HX3.out.below k2 HX3.out.lt
      obtain ⟨x0, x1⟩ := hX4.c2
      have hxl := hX4.lt
      clear k2 hX4 HF3 HG3 HX3 HB3 h0 h1
      by_cases hgc : gcheck g.1 g.2 = 0
      · have hgc' : (gcheck g.1 g.2 != 0) = false := by simp [hgc]
        have HGC := Lib.hid hgc
        rw [hgc]
        by_cases h60 : 60 < n'
        · have h60' : (60 : Int) < n' := by omega
          clear hgc hgc'
          go_wp2_with fail
          go_ret
          exact ⟨rfl, HF4.out.below⟩
        · have h60' : decide ((60 : Int) < n') = false := by simp; omega
          clear hgc hgc'
          go_wp2_with fail
          go_roundw
          case rel =>
            refine ⟨k + 1, by omega, by go_num, fun j g' hj hg' => ?_, HF4.out, HG4.out⟩
            by_cases e : j = k
            · rw [e, HGG.out] at hg'
              injection hg' with hg'
              rw [← hg']
              exact ⟨HGC.out, by rw [HLEN.out]; omega⟩
            · exact HJ.out j g' (by omega) hg'
          case measure => simp [intOf]; omega
      · have hgc' : (gcheck g.1 g.2 != 0) = true := by simp [hgc]
        clear hgc
        go_wp2_with fail
        go_ret
        exact ⟨rfl, HF4.out.below⟩
    · obtain rfl : k = 3 := by omega
      have HOB : Hid (okG b) := HJ.out 0 b (by omega) rfl
      have HOO : Hid (okG o) := HJ.out 1 o (by omega) rfl
      have HOT : Hid (okG t) := HJ.out 2 t (by omega) rfl
      obtain ⟨b0, b1⟩ := hF.b.c2
      obtain ⟨o0, o1⟩ := hF.o.c2
      obtain ⟨t0, t1⟩ := hF.t.c2
      have hFs := hF.size
      have HF5 := Lib.hid hF
      clear HJ hF hG
      go_wp2_with fail
      obtain ⟨r1, r2, r3, r4, r5, r6⟩ := HRD.out _ HF5.out.below
      refine (uof_any w.heap.size _ _ _ b o t _ ⟨_, _, _, _, _, _, rfl, r1, r2⟩ ⟨_, _, _, _, _, _, rfl, r3, r4⟩ ⟨_, _, _, _, _, _, rfl, r5, r6⟩ HF5.out.below.size (unL_ids HOO.out.fit HOT.out.fit) HOO.out.l1 HOT.out.l1 HOO.out.l2 HOT.out.l2).mono ?_
      rintro e w2 ⟨gv, rfl, ⟨A, n, c, A', n', c', rfl, p1, p2⟩, k2⟩
      have hF6 := HF5.out.on k2
      have HF6 := Lib.hid (hF6.alloc (.cells #[.slice A n c, .slice A' n' c'] 25))
      have hB6 := (Below.refl w2.heap.size w2).alloc (Nat.le_refl _) (.cells #[.slice A n c, .slice A' n' c'] 25)
      have HP1 := Lib.hid (p1.below hB6)
      have HP2 := Lib.hid (p2.below hB6)
      have HX6 := Lib.hid (Blk.new w2 25 #[.slice A n c, .slice A' n' c'])
      obtain ⟨b0, b1⟩ := hF6.b.c2
      obtain ⟨o0, o1⟩ := hF6.o.c2
      obtain ⟨t0, t1⟩ := hF6.t.c2
      have hFs := hF6.size
      have l0 := hF6.b.lt
      have l1 := hF6.o.lt
      have l2 := hF6.t.lt
      clear r1 r2 r3 r4 r5 r6 p1 p2 hF6 hB6 k2 HF5
      obtain ⟨RG, hRG⟩ : ∃ RG, (unR b o t).1 = RG := ⟨_, rfl⟩
      obtain ⟨RI, hRI⟩ : ∃ RI, (unR b o t).2.1 = RI := ⟨_, rfl⟩
      obtain ⟨RN, hRN⟩ : ∃ RN, (unR b o t).2.2 = RN := ⟨_, rfl⟩
      have HFIT : Hid (RN = 0 → gcheck RG.1 RG.2 = 0) := fun h => by
        have := unR_fit (b := b) HOO.out.fit HOT.out.fit (hRN.trans h)
        rwa [hRG] at this
      have HRR : Hid ((unR b o t).1 = RG ∧ (unR b o t).2.1 = RI ∧ (unR b o t).2.2 = RN) := ⟨hRG, hRI, hRN⟩
      rw [hRG] at HP1 HP2
      rw [hRI, hRN]
      clear hRG hRI hRN
      go_wp2_with fail
      obtain ⟨r1, r2, r3, r4, r5, r6⟩ := HRD.out _ HF6.out.below
      refine (rof_any w.heap.size _ _ _ b o t _ ⟨_, _, _, _, _, _, rfl, r1, r2⟩ ⟨_, _, _, _, _, _, rfl, r3, r4⟩ ⟨_, _, _, _, _, _, rfl, r5, r6⟩ HF6.out.below.size HOO.out.l1 HOT.out.l1 HOO.out.l2 HOT.out.l2).mono ?_
      rintro e w3 ⟨gv, rfl, ⟨D, m, d, D', m', d', rfl, q1, q2⟩, k3⟩
      rw [HRR.out.1] at q1 q2
      rw [HRR.out.2.1, HRR.out.2.2]
      have hF7 := HF6.out.on k3
      have HX7 := Lib.hid ((HX6.out.below k3 HX6.out.lt).alloc (.cells #[.slice D m d, .slice D' m' d'] 25))
      have HY7 := Lib.hid (Blk.new w3 25 #[.slice D m d, .slice D' m' d'])
      have hB7 := (Below.refl w3.heap.size w3).alloc (Nat.le_refl _) (.cells #[.slice D m d, .slice D' m' d'] 25)
      have HF7 := Lib.hid (hF7.on hB7)
      have hk3 := k3.size
      simp only [World.size_alloc] at hk3
      have HP3 := Lib.hid (((HP1.out.below (k3.mono (by simp))).more (by omega : w2.heap.size ≤ w3.heap.size)).below hB7)
      have HP4 := Lib.hid (((HP2.out.below (k3.mono (by simp))).more (by omega : w2.heap.size ≤ w3.heap.size)).below hB7)
      have HQ3 := Lib.hid (q1.below hB7)
      have HQ4 := Lib.hid (q2.below hB7)
      have hxl7 := (HX6.out.below k3 HX6.out.lt).lt
      obtain ⟨x0, x1⟩ := (HX6.out.below k3 HX6.out.lt).c2
      clear r1 r2 r3 r4 r5 r6 q1 q2 hF7 hB7 k3 HF6 HX6 HP1 HP2 b0 b1 o0 o1 t0 t1
      go_wp2_with fail
      refine (rsameG_any w3.heap.size _ _ RG RG _ ⟨_, _, _, _, _, _, rfl, HP3.out, HP4.out⟩ ⟨_, _, _, _, _, _, rfl, HQ3.out, HQ4.out⟩ (by simp)).mono ?_
      rintro e w4 ⟨rfl, k4⟩
      rw [sameG_self]
      have HF8 := Lib.hid (HF7.out.on k4)
      have hX8 := HX7.out.below k4 HX7.out.lt
      obtain ⟨x0, x1⟩ := hX8.c2
      have hxl := hX8.lt
      have HP5 := Lib.hid (HP3.out.below (k4.mono (by simp)))
      have HP6 := Lib.hid (HP4.out.below (k4.mono (by simp)))
      have hz4 := k4.size
      simp only [World.size_alloc] at hz4
      clear k4 hX8 HF7 HX7 HY7 HP3 HP4 HQ3 HQ4
      by_cases hN : RN = 0
      · have hN' : (RN != 0) = false := by simp [hN]
        have HCK := Lib.hid (HFIT.out hN)
        clear HFIT
        go_wp2_with fail
        refine (rcheck_any w3.heap.size _ _ _ _ _ _ RG.1 RG.2 _ HP5.out HP6.out (by omega)).mono ?_
        rintro e w5 ⟨rfl, k5⟩
        rw [HCK.out]
        go_wp2_with fail
        go_ret
        exact ⟨rfl, HF8.out.below.trans (k5.mono HF8.out.below.size)⟩
      · have hN' : (RN != 0) = true := by simp [hN]
        go_wp2_with fail
        go_ret
        exact ⟨rfl, HF8.out.below⟩
end Go.Proofs.Ytklmckbpbloonaa
