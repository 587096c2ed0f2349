/- Parts of the proof: UnO. -/
import Derived.Test.YtklmckbpbloonaaBC38
import Derived.Test.YtklmckbpbloonaaBC30
import Derived.Test.YtklmckbpbloonaaBC29
namespace Go.Proofs.Ytklmckbpbloonaa
open Go.RowKit

/-- A graph by value that reads as a row of vertices and a row of edges. -/
def RdG (w : World) (B : Nat) (v : Value) (g : Gph) : Prop := ∃ A n c A' n' c', v = .agg #[.slice A n c, .slice A' n' c'] ∧ RdU w B A n c g.1 ∧ RdE w B A' n' c' g.2
section
variable {w w' : World} {B B' : Nat} {v : Value} {g : Gph}
theorem RdG.below (h : RdG w B v g) (hb : Below B w w') : RdG w' B v g := by
  obtain ⟨A, n, c, A', n', c', e, h1, h2⟩ := h
  exact ⟨A, n, c, A', n', c', e, h1.below hb, h2.below hb⟩
theorem RdG.more (h : RdG w B v g) (hB : B ≤ B') : RdG w B' v g := by
  obtain ⟨A, n, c, A', n', c', e, h1, h2⟩ := h
  exact ⟨A, n, c, A', n', c', e, h1.more hB, h2.more hB⟩
theorem RdG.nil_ (w : World) : RdG w w.heap.size (.agg #[.slice none 0 0, .slice none 0 0]) ([], []) :=
  ⟨none, 0, 0, none, 0, 0, rfl, (OwnU.nil_ w none).rd, (OwnE.nil_ w none).rd⟩
end
theorem dang_take {vs : List Int} {es : List Edg} {k : Nat} {x : Edg} (h : es[k]? = some x) (hk : dang vs (es.take k) = none) (hx : okEnds vs x = true) : dang vs (es.take (k + 1)) = none := by
  unfold dang at hk ⊢
  rw [takeE_at h, List.find?_append, hk]
  simp [hx]
theorem dang_hit {vs : List Int} {es : List Edg} {k : Nat} {x : Edg} (h : es[k]? = some x) (hk : dang vs (es.take k) = none) (hx : okEnds vs x = false) : dang vs es = some x := by
  unfold dang at hk ⊢
  have e : es = es.take k ++ x :: es.drop (k + 1) := by rw [← drop_at h, List.take_append_drop]
  rw [e, List.find?_append, hk]
  simp [hx]
section
variable {b o t : Gph}
theorem unR_clash (h : unC b o t ≠ 0) : unR b o t = (([], []), unC b o t, 26) := by unfold unR; rw [if_pos h]
theorem unR_dang {x : Edg} (h : unC b o t = 0) (hd : dang (unV b o t) (unG b o t) = some x) : unR b o t = (([], []), x.1, 27) := by
  unfold unR; rw [if_neg (by omega), hd]
theorem unR_many (h : unC b o t = 0) (hd : dang (unV b o t) (unG b o t) = none) (hl : 64 < (unV b o t).length ∨ 160 < (unG b o t).length) : unR b o t = (([], []), 0, 6) := by
  unfold unR; rw [if_neg (by omega), hd]; simp only [if_pos hl]
theorem unR_all (h : unC b o t = 0) (hd : dang (unV b o t) (unG b o t) = none) (h1 : ¬ 64 < (unV b o t).length) (h2 : ¬ 160 < (unG b o t).length) : unR b o t = ((unV b o t, unG b o t), 0, 0) := by
  unfold unR; rw [if_neg (by omega), hd]; simp only [if_neg (show ¬ (64 < (unV b o t).length ∨ 160 < (unG b o t).length) by omega)]
end
theorem allN_le (b o t : List Int) : allN b o t ≤ o.length + t.length := by
  unfold allN allL
  rw [List.length_append]
  have h1 := List.length_filter_le (pA b t) o
  have h2 := List.length_filter_le (pB b o) t
  omega
theorem allE_le (b o t : List Edg) : (allE b o t).length ≤ o.length + t.length := by
  unfold allE
  rw [List.length_append]
  have h1 := List.length_filter_le (pAE b t) o
  have h2 := List.length_filter_le (pBE b o) t
  omega
/-- The blocks of union.Of's own: the three graphs, the result. -/
structure OfFr (w w' : World) (b1 b2 o1 o2 t1 t2 : Value) : Prop where
  b : Blk w' w.heap.size 25 #[b1, b2]
  o : Blk w' (w.heap.size + 1) 25 #[o1, o2]
  t : Blk w' (w.heap.size + 2) 25 #[t1, t2]
  r : Blk w' (w.heap.size + 3) 25 #[.slice none 0 0, .slice none 0 0]
  below : Below w.heap.size w w'
  size : w.heap.size + 4 ≤ w'.heap.size
section
variable {w w' w'' : World} {b1 b2 o1 o2 t1 t2 : Value}
theorem OfFr.on (h : OfFr w w' b1 b2 o1 o2 t1 t2) (hb : Below w'.heap.size w' w'') : OfFr w w'' b1 b2 o1 o2 t1 t2 :=
  ⟨h.b.below hb h.b.lt, h.o.below hb h.o.lt, h.t.below hb h.t.lt, h.r.below hb h.r.lt, h.below.trans (hb.mono h.below.size), by have := h.size; have := hb.size; omega⟩
theorem OfFr.alloc (h : OfFr w w' b1 b2 o1 o2 t1 t2) (x : Obj) : OfFr w (w'.alloc x) b1 b2 o1 o2 t1 t2 := h.on ((Below.refl _ _).alloc (Nat.le_refl _) x)
theorem OfFr.grown (h : OfFr w w' b1 b2 o1 o2 t1 t2) {r : Option Nat} (hg : w'.grownBy w'' r) (hr : ∀ g, r = some g → w.heap.size + 4 ≤ g) : OfFr w w'' b1 b2 o1 o2 t1 t2 :=
  ⟨h.b.grown hg (fun e => by have := hr _ e.symm; omega), h.o.grown hg (fun e => by have := hr _ e.symm; omega), h.t.grown hg (fun e => by have := hr _ e.symm; omega), h.r.grown hg (fun e => by have := hr _ e.symm; omega), h.below.grown hg h.below.size (fun g e => by have := hr g e; omega), by have := h.size; have := hg.size; omega⟩
theorem OfFr.first (w : World) (b1 b2 o1 o2 t1 t2 : Value) : OfFr w ((((w.alloc (.cells #[b1, b2] 25)).alloc (.cells #[o1, o2] 25)).alloc (.cells #[t1, t2] 25)).alloc (.cells #[.slice none 0 0, .slice none 0 0] 25)) b1 b2 o1 o2 t1 t2 := by
  have q1 := Blk.new (w.alloc (.cells #[b1, b2] 25)) 25 #[o1, o2]
  have q2 := Blk.new ((w.alloc (.cells #[b1, b2] 25)).alloc (.cells #[o1, o2] 25)) 25 #[t1, t2]
  have q3 := Blk.new (((w.alloc (.cells #[b1, b2] 25)).alloc (.cells #[o1, o2] 25)).alloc (.cells #[t1, t2] 25)) 25 #[.slice none 0 0, .slice none 0 0]
  simp only [World.size_alloc] at q1 q2 q3
  exact ⟨(((Blk.new w _ _).alloc _).alloc _).alloc _, (q1.alloc _).alloc _, q2.alloc _, q3, ((((Below.refl _ w).alloc (Nat.le_refl _) _).alloc (by simp) _).alloc (by simp; omega) _).alloc (by simp; omega) _, by simp⟩
end
set_option maxRecDepth 100000 in
theorem edges_field (a b c : Value) (W : World) : Sem.run Try.prog (Instr.field 88 (.agg #[a, b, c]) 0) W = .ok (.agg #[a, b, c]) W := by kernel_rfl
set_option maxRecDepth 100000 in
set_option maxHeartbeats 4000000 in
theorem uof_any (B : Nat) (vb vo vt : Value) (b o t : Gph) (w : World) (hb : RdG w B vb b) (ho : RdG w B vo o) (ht : RdG w B vt t) (hB : B ≤ w.heap.size)
    (hid : ∀ e ∈ unL b o t, 1 ≤ e.1) (s1 : o.1.length ≤ 1000) (s2 : t.1.length ≤ 1000) (s3 : o.2.length ≤ 1000) (s4 : t.2.length ≤ 1000) :
    Calls Try.prog 34 #[vb, vo, vt] w fun e w' => ∃ gv, e = .returned (.tuple #[gv, .int .u32 (unR b o t).2.1, .int .i64 (unR b o t).2.2]) ∧ RdG w' w'.heap.size gv (unR b o t).1 ∧ Below w.heap.size w w' := by
  obtain ⟨Ab, nb, cb, Ab', nb', cb', rfl, hb1, hb2⟩ := hb
  obtain ⟨Ao, no, co, Ao', no', co', rfl, ho1, ho2⟩ := ho
  obtain ⟨At, nt, ct, At', nt', ct', rfl, ht1, ht2⟩ := ht
  have lo1 := ho1.len
  have lo2 := ho2.len
  have lt1 := ht1.len
  have lt2 := ht2.len
  have HID := Lib.hid hid
  have HN1 := Lib.hid (allN_le b.1 o.1 t.1)
  have HN2 := Lib.hid (allE_le b.2 o.2 t.2)
  clear hid
  have HF0 := Lib.hid (OfFr.first w (.slice Ab nb cb) (.slice Ab' nb' cb') (.slice Ao no co) (.slice Ao' no' co') (.slice At nt ct) (.slice At' nt' ct'))
  have hfld := edges_field
  go_enter Try.func34, Try.ntmps34
  go_wp2_with fail
  refine (allE_any B _ _ _ _ _ _ _ _ _ b.2 o.2 t.2 _ (hb2.below (HF0.out.below.mono hB)) (ho2.below (HF0.out.below.mono hB)) (ht2.below (HF0.out.below.mono hB)) (by omega) (by omega) (by have := HF0.out.below.size; omega)).mono ?_
  rintro e w1 ⟨r1, A1, c1, rfl, m1, m2, m3⟩
  have HF1 := Lib.hid (HF0.out.on m2)
  obtain ⟨l, hl⟩ : ∃ l, allE b.2 o.2 t.2 = l := ⟨_, rfl⟩
  have HL : Hid (unL b o t = l) := hl
  rw [hl] at m1
  have hll : l.length ≤ 100000 := by have := HN2.out; rw [hl] at this; omega
  have HM1 := Lib.hid m1
  rw [hl]
  clear HF0 m1 m2 m3 hl
  go_wp2_with fail
  refine (clash_any _ _ _ _ l _ HM1.out.rd (Nat.le_refl _) (by omega)).mono ?_
  rintro e w2 ⟨rfl, B2⟩
  have HF2 := Lib.hid (HF1.out.on B2)
  have HM2 := Lib.hid (HM1.out.below B2 HM1.out.lt)
  clear B2 HF1 HM1
  have HC : Hid (unC b o t = clashTo l l.length) := by show clashTo _ _ = _; rw [HL.out]
  obtain ⟨C, hC⟩ : ∃ C, clashTo l l.length = C := ⟨_, rfl⟩
  rw [hC] at HC
  rw [hC]
  by_cases hc : C = 0
  · have hcc : (C != 0) = false := by simp [hc]
    have HND : Hid ((l.map Prod.fst).Nodup) := by
      show List.Nodup _
      refine clash_zero (fun e he => ?_) (hC.trans hc)
      exact HID.out e (by rw [HL.out]; exact he)
    have HC0 : Hid (unC b o t = 0) := by show _ = _; rw [HC.out, hc]
    clear hC hc HC
    obtain ⟨b0, b1⟩ := HF2.out.b.c2
    obtain ⟨o0, o1⟩ := HF2.out.o.c2
    obtain ⟨t0, t1⟩ := HF2.out.t.c2
    have hz2 := HF2.out.size
    have hbs := HF2.out.below
    go_wp2_with fail
    refine (pick_any B _ _ _ _ _ _ _ _ _ b.1 o.1 t.1 _ (hb1.below (hbs.mono hB)) (ho1.below (hbs.mono hB)) (ht1.below (hbs.mono hB)) (by omega) (by omega) (by have := hbs.size; omega)).mono ?_
    rintro e w3 ⟨r3, A3, c3, rfl, p1, p2⟩
    have HF3 := Lib.hid (HF2.out.on p2)
    have HM3 := Lib.hid (HM2.out.below p2 HM2.out.lt)
    have HP3 := Lib.hid p1
    have han : allN b.1 o.1 t.1 ≤ 1000000 := by have := HN1.out; omega
    have HV : Hid (cpL (sortL (allL b.1 o.1 t.1)) = unV b o t) := (makeV_eq _).symm
    clear HF2 HM2 b0 b1 o0 o1 t0 t1 hz2 hbs p1 p2
    go_wp2_with fail
    refine (make_any _ _ _ _ _ _ _ (allL b.1 o.1 t.1) l _ HP3.out.rd HM3.out.rd han hll HND.out (Nat.le_refl _)).mono ?_
    rintro e w4 ⟨r4, A4, c4, r5, A5, c5, es', rfl, q1, q2, q3, q4, q5, q6, q7⟩
    have HE : Hid (unG b o t = es') := by show makeTo _ _ _ = _; rw [HL.out]; exact (makeE_eq HND.out q3 q4).symm
    have HF4 := Lib.hid (HF3.out.on q5)
    rw [HV.out] at q1
    rw [HV.out]
    obtain ⟨V, hV⟩ : ∃ V, unV b o t = V := ⟨_, rfl⟩
    have HVV := Lib.hid hV
    rw [hV] at q1
    rw [hV]
    have hel := q2.len
    have hvl := q1.len
    obtain ⟨nV, hnV⟩ : ∃ nV, V.length = nV := ⟨_, rfl⟩
    obtain ⟨nE, hnE⟩ : ∃ nE, l.length = nE := ⟨_, rfl⟩
    rw [hnV] at q1
    rw [hnE] at q2 hel
    rw [hnV, hnE]
    have HNV := Lib.hid hnV
    have HQ1 := Lib.hid q1
    have HQ2 := Lib.hid q2
    have hr4 : ∀ g, r4 = some g → w.heap.size + 4 ≤ g := fun g e => Nat.le_trans HF3.out.size (q6 g e)
    have hr5 : ∀ g, r5 = some g → w.heap.size + 4 ≤ g := fun g e => Nat.le_trans HF3.out.size (q7 g e)
    have hvb := q1.rd.bd
    have heb := q2.rd.bd
    have HEL := Lib.hid hel
    have hF4s := HF4.out.size
    have HF5 := Lib.hid (HF4.out.alloc (.cells #[.slice A4 nV c4, .slice A5 nE c5] 25))
    have HX5 := Lib.hid (Blk.new w4 25 #[.slice A4 nV c4, .slice A5 nE c5])
    have HQ3 := Lib.hid (HQ1.out.alloc (.cells #[.slice A4 nV c4, .slice A5 nE c5] 25))
    have HQ4 := Lib.hid (HQ2.out.alloc (.cells #[.slice A4 nV c4, .slice A5 nE c5] 25))
    clear q1 q2 q3 q4 q5 q6 q7 hV HV hnV hnE hel hvl HF3 HM3 HP3 HF4 HQ1 HQ2
    go_wp2_with fail
    go_loopw [13, 42] (fun _ i wr => ∃ k : Nat, k ≤ nE ∧ i = .int .i64 k ∧ OfFr w wr (.slice Ab nb cb) (.slice Ab' nb' cb') (.slice Ao no co) (.slice Ao' no' co') (.slice At nt ct) (.slice At' nt' ct') ∧ Blk wr w4.heap.size 25 #[.slice A4 nV c4, .slice A5 nE c5] ∧ OwnU wr r4 A4 nV c4 V ∧ OwnE wr r5 A5 nE c5 es' ∧ Hid (dang V (es'.take k) = none)) (fun _ i _ => nE - (intOf i).toNat)
    case atStart => exact ⟨0, by omega, rfl, HF5.out, HX5.out, HQ3.out, HQ4.out, by show _ = _; simp [dang]⟩
    case round =>
      clear HF5 HX5 HQ3 HQ4
      obtain ⟨k, hk, rfl, hF, hX, hQV, hQE, hD⟩ := hrel
      by_cases hlt : k < nE
      · obtain ⟨ad, x, rfl, hbl, hx, hxb, hc1, hc2, hc3⟩ := hQE.rd.at_ hlt
        have HX := Lib.hid hx
        have hb6 := (Below.refl wr.heap.size wr).alloc (Nat.le_refl _) (.cells #[.int .u32 x.1, .int .u32 x.2.1, .int .u32 x.2.2] 39)
        have HF6 := Lib.hid (hF.on hb6)
        have HX6 := Lib.hid (hX.below hb6 hX.lt)
        have hsz := hX.lt
        have HV6 := Lib.hid (hQV.below hb6 hQV.lt)
        have HE6 := Lib.hid (hQE.below hb6 hQE.lt)
        have HZ6 := Lib.hid (Blk.new wr 39 #[.int .u32 x.1, .int .u32 x.2.1, .int .u32 x.2.2])
        obtain ⟨x0, x1⟩ := hX.c2
        clear hx hF hX hQV hQE hb6
        go_wp2_with fail
        refine (vert_any _ _ _ _ V _ x.2.1 _ HV6.out.rd (Nat.le_refl _)).mono ?_
        rintro e w6 ⟨rfl, B6⟩
        have hb6 := B6.size
        simp only [World.size_alloc] at hb6
        have hF7 := HF6.out.on B6
        have HF7 := Lib.hid hF7
        have hX7 := HX6.out.below B6 HX6.out.lt
        have HX7 := Lib.hid hX7
        have HV7 := Lib.hid (HV6.out.below B6 HV6.out.lt)
        have HE7 := Lib.hid (HE6.out.below B6 HE6.out.lt)
        have hZ7 := HZ6.out.below B6 HZ6.out.lt
        have HZ7 := Lib.hid hZ7
        obtain ⟨x0, x1⟩ := hX7.c2
        obtain ⟨z0, z1, z2⟩ := hZ7.c3
        have hzl := hZ7.lt
        have hxl := hX7.lt
        clear B6 hF7 hX7 hZ7 HF6 HX6 HV6 HE6 HZ6
        cases hA : hasB V x.2.1
        · have HA := Lib.hid hA
          clear hA
          have g1 := idx_hasnt HA.out
          have hr := HF7.out.r
          have f0 := hr.frozen 0
          have f1 := hr.frozen 1
          obtain ⟨r0, r1⟩ := hr.c2
          have hrl := hr.lt
          have HRS : Hid (unR b o t = (([], []), x.1, 27)) := unR_dang HC0.out (by rw [HVV.out, HE.out]; exact dang_hit HX.out hD.out (by simp [okEnds, HA.out]))
          go_wp2_with fail
          go_region
          go_wp2_with fail
          refine bodyPost_ret (v := .tuple #[.agg #[.slice none 0 0, .slice none 0 0], .int .u32 x.1, .int .i64 27]) (by simp [results, Try.results34, go_sem, r0, r1]) rfl ?_
          refine ⟨.agg #[.slice none 0 0, .slice none 0 0], by rw [HRS.out], ?_, (HF7.out.below.drew.setCell (by simp; omega) _).setCell (by simp; omega) _⟩
          rw [HRS.out]
          exact RdG.nil_ _
        · have HA := Lib.hid hA
          clear hA
          have g1 := idx_has HA.out
          have g1' : decide (idx V x.2.1 < 0) = false := by simp; omega
          go_wp2_with fail
          refine (vert_any _ _ _ _ V _ x.2.2 _ HV7.out.rd (Nat.le_refl _)).mono ?_
          rintro e w7 ⟨rfl, B7⟩
          have hF8 := HF7.out.on B7
          have HF8 := Lib.hid hF8
          have hX8 := HX7.out.below B7 HX7.out.lt
          have HX8 := Lib.hid hX8
          have HV8 := Lib.hid (HV7.out.below B7 HV7.out.lt)
          have HE8 := Lib.hid (HE7.out.below B7 HE7.out.lt)
          have hZ8 := HZ7.out.below B7 HZ7.out.lt
          have HZ8 := Lib.hid hZ8
          obtain ⟨x0, x1⟩ := hX8.c2
          obtain ⟨z0, z1, z2⟩ := hZ8.c3
          have hzl := hZ8.lt
          have hxl := hX8.lt
          clear B7 hF8 hX8 hZ8 HF7 HX7 HV7 HE7 HZ7
          cases hA2 : hasB V x.2.2
          · have HA2 := Lib.hid hA2
            clear hA2
            have g2 := idx_hasnt HA2.out
            have hr := HF8.out.r
            have f0 := hr.frozen 0
            have f1 := hr.frozen 1
            obtain ⟨r0, r1⟩ := hr.c2
            have hrl := hr.lt
            have HRS : Hid (unR b o t = (([], []), x.1, 27)) := unR_dang HC0.out (by rw [HVV.out, HE.out]; exact dang_hit HX.out hD.out (by simp [okEnds, HA2.out]))
            go_wp2_with fail
            go_region
            go_wp2_with fail
            refine bodyPost_ret (v := .tuple #[.agg #[.slice none 0 0, .slice none 0 0], .int .u32 x.1, .int .i64 27]) (by simp [results, Try.results34, go_sem, r0, r1]) rfl ?_
            refine ⟨.agg #[.slice none 0 0, .slice none 0 0], by rw [HRS.out], ?_, (HF8.out.below.drew.setCell (by simp; omega) _).setCell (by simp; omega) _⟩
            rw [HRS.out]
            exact RdG.nil_ _
          · have HA2 := Lib.hid hA2
            clear hA2
            have g2 := idx_has HA2.out
            have g2' : decide (idx V x.2.2 < 0) = false := by simp; omega
            go_wp2_with fail
            go_roundw
            case rel => exact ⟨k + 1, by omega, by go_num, HF8.out, HX8.out, HV8.out, HE8.out, by show _ = _; exact dang_take HX.out hD.out (by simp [okEnds, HA.out, HA2.out])⟩
            case measure => simp [intOf]; omega
      · obtain rfl : k = nE := by omega
        have HDN : Hid (dang (unV b o t) (unG b o t) = none) := by
          show _ = _
          rw [HVV.out, HE.out]
          have := hD.out
          rwa [List.take_of_length_le (by rw [HEL.out]; exact Nat.le_refl _)] at this
        have hr := hF.r
        have f0 := hr.frozen 0
        have f1 := hr.frozen 1
        obtain ⟨r0, r1⟩ := hr.c2
        obtain ⟨x0, x1⟩ := hX.c2
        have hrl := hr.lt
        have hxl := hX.lt
        have hFs := hF.size
        have HF := Lib.hid hF
        have HQV := Lib.hid hQV
        have HQE := Lib.hid hQE
        clear hF hQV hQE hX hr
        by_cases h64 : 64 < nV
        · have h64' : (64 : Int) < nV := by omega
          have HRS : Hid (unR b o t = (([], []), 0, 6)) := unR_many HC0.out HDN.out (by rw [HVV.out, HE.out, HNV.out, HEL.out]; omega)
          go_wp2_with fail
          refine bodyPost_ret (v := .tuple #[.agg #[.slice none 0 0, .slice none 0 0], .int .u32 0, .int .i64 6]) (by simp [results, Try.results34, go_sem, r0, r1]) rfl ?_
          refine ⟨.agg #[.slice none 0 0, .slice none 0 0], by rw [HRS.out], ?_, (HF.out.below.setCell (by simp; omega) _).setCell (by simp; omega) _⟩
          rw [HRS.out]
          exact RdG.nil_ _
        · have h64' : decide ((64 : Int) < nV) = false := by simp; omega
          by_cases h160 : 160 < k
          · have h160' : (160 : Int) < k := by omega
            have HRS : Hid (unR b o t = (([], []), 0, 6)) := unR_many HC0.out HDN.out (by rw [HVV.out, HE.out, HNV.out, HEL.out]; omega)
            go_wp2_with fail
            refine bodyPost_ret (v := .tuple #[.agg #[.slice none 0 0, .slice none 0 0], .int .u32 0, .int .i64 6]) (by simp [results, Try.results34, go_sem, r0, r1]) rfl ?_
            refine ⟨.agg #[.slice none 0 0, .slice none 0 0], by rw [HRS.out], ?_, (HF.out.below.setCell (by simp; omega) _).setCell (by simp; omega) _⟩
            rw [HRS.out]
            exact RdG.nil_ _
          · have h160' : decide ((160 : Int) < k) = false := by simp; omega
            have HRS : Hid (unR b o t = ((V, es'), 0, 0)) := by
              have := unR_all HC0.out HDN.out (by rw [HVV.out, HNV.out]; omega) (by rw [HE.out, HEL.out]; omega)
              rw [HVV.out, HE.out] at this
              exact this
            go_wp2_with fail
            refine bodyPost_ret (v := .tuple #[.agg #[.slice A4 nV c4, .slice A5 k c5], .int .u32 0, .int .i64 0]) (by simp [results, Try.results34, go_sem, r0, r1]) rfl ?_
            refine ⟨.agg #[.slice A4 nV c4, .slice A5 k c5], by rw [HRS.out], ?_, (HF.out.below.setCell (by simp; omega) _).setCell (by simp; omega) _⟩
            rw [HRS.out]
            exact ⟨A4, nV, c4, A5, k, c5, rfl, ((HQV.out.setCell_far (fun g e => by have := hr4 g e; simp; omega) _).setCell_far (fun g e => by have := hr4 g e; simp; omega) _).rd, ((HQE.out.setCell_far (fun g e => by have := hr5 g e; simp; omega) _).setCell_far (fun g e => by have := hr5 g e; simp; omega) _).rd⟩
  · have hcc : (C != 0) = true := by simp [hc]
    have hr := HF2.out.r
    have f0 := hr.frozen 0
    have f1 := hr.frozen 1
    obtain ⟨r0, r1⟩ := hr.c2
    have hrl := hr.lt
    have HRS : Hid (unR b o t = (([], []), C, 26)) := by
      have h := HC.out
      have q := unR_clash (b := b) (o := o) (t := t) (by rw [h]; exact hc)
      rw [h] at q
      exact q
    go_wp2_with fail
    refine bodyPost_ret (v := .tuple #[.agg #[.slice none 0 0, .slice none 0 0], .int .u32 C, .int .i64 26]) (by simp [results, Try.results34, go_sem, r0, r1]) rfl ?_
    refine ⟨.agg #[.slice none 0 0, .slice none 0 0], by rw [HRS.out], ?_, (HF2.out.below.setCell (by simp; omega) _).setCell (by simp; omega) _⟩
    rw [HRS.out]
    exact RdG.nil_ _
end Go.Proofs.Ytklmckbpbloonaa
