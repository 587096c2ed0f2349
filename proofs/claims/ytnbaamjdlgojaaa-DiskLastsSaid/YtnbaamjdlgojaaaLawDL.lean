/- The walk of the law DiskLasts. -/
import Derived.Test.YtnbaamjdlgojaaaDkP
import Derived.Test.YtnbaamjdlgojaaaDkO
import Derived.Test.YtnbaamjdlgojaaaDkE
import Derived.Test.YtnbaamjdlgojaaaDkQ
import Derived.Deep.RegionHeld3
namespace Go.Proofs.Ytnbaamjdlgojaaa
open Go.RowKit

set_option maxRecDepth 100000 in
theorem zeroU (w : World) : (zeroValue 5).run Try.prog w = .ok (.int .u8 0) w := by kernel_rfl
set_option maxRecDepth 100000 in
theorem indexB0 {b : Bl} (h : okB b) (w : World) : (Instr.index 33 (.agg (ca b)) (.int .i64 0)).run Try.prog w = .ok (.int .u8 (byte0 b)) w := by
  match b, h with
  | [], h => exact absurd h.1 (by simp)
  | x :: r, h =>
    have hs := ca_size (x :: r)
    rw [h.1] at hs
    have h0 : (ca (x :: r))[0]? = some (.int .u8 x) := rfl
    unfold Instr.index
    simp [go_sem, Try.underlying33, asIntOf, part, Try.sizeOf5, Try.isAgg5, h0, byte0]
theorem exec_loadB {W : World} {o : Oper} {a : Act} {x : Operand} {g : Nat} {b : Bl} (ho : o.op = .load 33 x) (hx : a.eval x = .pointer (some ⟨g, 0, none⟩)) (hb : BlAt W g b) : (execOp a.eval o).run Try.prog W = .ok (.value (.agg (ca b))) W := by
  unfold execOp
  simp only [ho, hx, Instr.loadAt, Instr.sureAddr, Sem.run_bind, Sem.run_pure, Result.andThen_ok, run_loadB hb]
theorem dl_S {W : World} {gb mA mB : Nat} {bb : Bl} {ma mb : List (Int × Int)} {i fa lm : Int} (hb : BlAt W gb bb) (hA : MapOf W mA .i64 (Value.int .u8) ma) (hB : MapOf W mB .i64 (Value.int .u8) mb) (ga : mget ma i = some fa) (gm : mget mb i = some lm) :
    W.rangeAt gb 0 (bc bb) ∧ W.cell? ⟨gb, 0, none⟩ = some (.int .u8 (byte0 bb)) ∧ (Instr.lookup 35 (.map (some mA)) (.int .i64 i) false).run Try.prog W = .ok (.int .u8 fa) W ∧ (Instr.lookup 35 (.map (some mB)) (.int .i64 i) false).run Try.prog W = .ok (.int .u8 lm) W := by
  refine ⟨hb.range, ?_, ?_, ?_⟩
  · rw [hb.1.cell]
    match bb, hb.2 with
    | [], h => exact absurd h.1 (by simp)
    | x :: r, _ => rfl
  · have := hA.lookup Try.underlying35 Try.underlying3 (zeroU W) i
    rw [ga] at this; exact this
  · have := hB.lookup Try.underlying35 Try.underlying3 (zeroU W) i
    rw [gm] at this; exact this
theorem DkAt.drew {w : World} {g b l : Nat} {s : DS} (h : DkAt w g b l s) : DkAt w.drew g b l s := h.drewN 1
theorem BlAt.on {w w' : World} {g : Nat} {b : Bl} (h : BlAt w g b) (hb : Below w.heap.size w w') : BlAt w' g b := ⟨h.1.below hb h.1.lt, h.2⟩
theorem lastB_in {s : DS} {i : Nat} (hi : i < s.last.length) : lastB s i = s.last.getD i [] := by unfold lastB; rw [if_neg (by omega)]; rfl
theorem lastB_ok {s : DS} (h : DsOk s) (i : Int) : okB (lastB s i) := by
  unfold lastB; split
  · exact zB_ok
  · rw [List.getD_eq_getElem?_getD, List.getElem?_eq_getElem (by omega)]; exact h.last _ (List.getElem_mem _)
set_option maxRecDepth 100000 in
set_option maxHeartbeats 8000000 in
theorem diskLasts_any (A1 A2 A3 : Option Addr) (n1 c1 n2 c2 n3 c3 : Nat) (first then_ : List Deed) (kept : List Bool) (w : World) (h1 : RdA w w.heap.size A1 n1 c1 first) (h2 : RdA w w.heap.size A2 n2 c2 then_) (h3 : RdB w w.heap.size A3 n3 c3 kept) (hz1 : n1 ≤ 140737488355328) (hz2 : n2 ≤ 140737488355328) :
    Calls Try.prog 3 #[.slice A1 n1 c1, .slice A2 n2 c2, .slice A3 n3 c3] w fun e w' => e = .returned (.bool true) ∧ Below w.heap.size w w' := by
  obtain ⟨_, b11, b12, _⟩ := id h1
  obtain ⟨_, b21, b22, _⟩ := id h2
  obtain ⟨_, b31, b32⟩ := id h3
  by_cases hbig : 60 < n1 + n2 ∨ 100 < n3
  · by_cases hb1 : 60 < n1 + n2
    · have q1 : (60 : Int) < (n1 : Int) + n2 := by omega
      go_enter Try.func3, Try.ntmps3
      go_wp2_with (go_at_call 6; refine (awake2 _).mono ?_; rintro e w0 ⟨rfl, k0⟩)
      go_ret
      exact ⟨rfl, k0⟩
    · have q1 : decide ((60 : Int) < (n1 : Int) + n2) = false := by simp; omega
      have q2 : (100 : Int) < n3 := by omega
      have hn1 : n1 ≤ 60 := by omega
      have hn2 : n2 ≤ 60 := by omega
      go_enter Try.func3, Try.ntmps3
      go_wp2_with (go_at_call 6; refine (awake2 _).mono ?_; rintro e w0 ⟨rfl, k0⟩)
      go_ret
      exact ⟨rfl, k0⟩
  · have q1 : decide ((60 : Int) < (n1 : Int) + n2) = false := by simp; omega
    have q2 : decide ((100 : Int) < n3) = false := by simp; omega
    have hz := zeroB
    have hb1 := buildB1
    have hmm := @run_makeMap Try.prog
    have hzu := zeroU
    have hn1 : n1 ≤ 60 := by omega
    have hn2 : n2 ≤ 60 := by omega
    clear hbig
    go_enter Try.func3, Try.ntmps3
    go_wp2_with fail
    refine (awake2 _).mono ?_
    rintro e w0 ⟨rfl, k0⟩
    have HB0 := Lib.hid k0
    have hs0 := k0.size
    clear k0
    go_wp2_with fail
    refine (new_any 64 _ (by omega) (by omega)).mono ?_
    rintro e w1 ⟨g, b, l, rfl, d1, hg, hb, hl, B1⟩
    have HB1 := Lib.hid (HB0.out.trans (B1.mono hs0))
    have HD1 := Lib.hid d1
    have hg' : w.heap.size ≤ g := by omega
    have hb' : w.heap.size ≤ b := by omega
    have hl' : w.heap.size ≤ l := by omega
    obtain ⟨e1, e2, e3⟩ := d1.ne
    clear B1 d1 hg hb hl hs0 HB0
    go_wp2_with fail
    go_loopw [39] (fun i wr => ∃ (k : Nat) (s : DS), k ≤ n1 ∧ i = .int .i64 k ∧ DkAt wr g b l s ∧ Hid (Calm s ∧ 0 ≤ s.steps ∧ s.steps ≤ k) ∧ Below w.heap.size w wr) (fun i _ => n1 - (intOf i).toNat)
    case atStart => exact ⟨0, freshS 64, by omega, rfl, HD1.out, ⟨⟨rfl, rfl, by simp [freshS]⟩, by simp [freshS], by simp [freshS]⟩, HB1.out⟩
    case round =>
      clear HD1 HB1
      obtain ⟨k, s, hk, rfl, hd, hc, hbr⟩ := hrel
      by_cases hlt : k < n1
      · have hq := h1.below hbr
        obtain ⟨ad, x, rfl, hbl, hx, hxo, hc1, hc2, hc3, hc4⟩ := hq.at_ hlt
        obtain ⟨x1, x2⟩ := hxo.b
        have hbs := hbr.size
        have HD := Lib.hid (hd.below ((Below.refl _ wr).alloc (Nat.le_refl _) (.cells #[.int .i64 x.kind, .int .i64 x.at_, .int .u8 x.b, .slice x.kA x.kn x.kc] 30)))
        have HBR := Lib.hid (hbr.alloc hbr.size (.cells #[.int .i64 x.kind, .int .i64 x.at_, .int .u8 x.b, .slice x.kA x.kn x.kc] 30))
        clear hx hxo hq hd hbr
        go_wp2_with (go_at_call 8; refine (write_any _ _ _ _ _ _ _ HD.out (oneB_ok ⟨x1, x2⟩) ⟨hc.out.2.1, by have := hc.out.2.2; omega⟩).mono ?_; rintro e w3 ⟨rfl, m1, m2⟩)
        go_roundw
        case rel =>
          obtain ⟨y1, y2, y3⟩ := calm_wrote_calm hc.out.1 x.at_ (oneB x.b)
          have y4 := hc.out.2.1
          have y5 := hc.out.2.2
          exact ⟨k + 1, _, by omega, by go_num, m1, ⟨y1, by omega, by push_cast; omega⟩, HBR.out.trans (m2.below HBR.out.size (by simp; omega))⟩
        case measure => simp [intOf]; omega
      · obtain rfl : k = n1 := by omega
        go_wp2_with fail
        refine (barrier_any _ _ _ _ _ hd ⟨hc.out.2.1, by have := hc.out.2.2; omega⟩).mono ?_
        rintro e w2 ⟨rfl, m1, m2⟩
        obtain ⟨t1, t2⟩ := calm_barrier hc.out.1
        rw [t1]
        have hs1 : Hid (Calm (barriered s) ∧ (barriered s).cache = [] ∧ 0 ≤ (barriered s).steps ∧ (barriered s).steps ≤ 61) := by
          have y4 := hc.out.2.1
          have y5 := hc.out.2.2
          have y6 := hc.out.1
          show _ ∧ _
          rw [t2]
          exact ⟨⟨y6.fuse, y6.down, by simp only [laidK_len]; exact y6.len⟩, rfl, by show 0 ≤ s.steps + 1; omega, by show s.steps + 1 ≤ 61; omega⟩
        have HB2 := Lib.hid (hbr.trans (m2.below hbr.size (by simp; omega)))
        generalize barriered s = s1 at m1 hs1
        have HM1 := Lib.hid m1
        clear t1 t2 m1 m2 hd hc hbr hk hlt
        go_wp2_with fail
        have r1 : Below w.heap.size w ((w2.alloc (.map #[] 0)).alloc (.map #[] 0)) := (HB2.out.alloc HB2.out.size _).alloc (by have := HB2.out.size; simp; omega) _
        have r2 := HM1.out.below (((Below.refl w2.heap.size w2).alloc (Nat.le_refl _) (.map #[] 0)).alloc (by simp) (.map #[] 0))
        have r3 : MapOf ((w2.alloc (.map #[] 0)).alloc (.map #[] 0)) w2.heap.size .i64 (Value.int .u8) [] := (MapOf.made w2 .i64 (Value.int .u8)).alloc _
        have r4 : MapOf ((w2.alloc (.map #[] 0)).alloc (.map #[] 0)) (w2.heap.size + 1) .i64 (Value.int .u8) [] := by have := MapOf.made (w2.alloc (.map #[] 0)) .i64 (Value.int .u8); rwa [World.size_alloc] at this
        have hw2 := HB2.out.size
        have hg2 := HM1.out.head.lt
        have hb2 := HM1.out.cache.lt
        have hl2 := HM1.out.last.1.lt
        have R1 := Lib.hid r1
        have R2 := Lib.hid r2
        have R3 := Lib.hid r3
        have R4 := Lib.hid r4
        clear r1 r2 r3 r4 HB2 HM1
        generalize hmA : w2.heap.size = mA at *
        clear hmA
        generalize (w2.alloc (.map #[] 0)).alloc (.map #[] 0) = wm at R1 R2 R3 R4 ⊢
        have hmB : mA ≠ mA + 1 ∧ w.heap.size ≤ mA + 1 ∧ g < mA + 1 ∧ b < mA + 1 ∧ l < mA + 1 := by omega
        generalize mA + 1 = mB at *
        obtain ⟨hmB1, hmB2, hmB3, hmB4, hmB5⟩ := hmB
        go_loopw [55] (fun i wr => ∃ (j : Nat), j ≤ 64 ∧ i = .int .i64 j ∧ DkAt wr g b l s1 ∧ MapOf wr mA .i64 (Value.int .u8) (mapF (upTo j) (firstF s1.last)) ∧ MapOf wr mB .i64 (Value.int .u8) (mapF (upTo j) (firstF s1.last)) ∧ Below w.heap.size w wr) (fun i _ => 64 - (intOf i).toNat)
        case atStart => exact ⟨0, by omega, rfl, R2.out, R3.out, R4.out, R1.out⟩
        case round =>
          clear R1 R2 R3 R4
          obtain ⟨j, hj, rfl, hd, hA, hB, hbr⟩ := hrel
          have hbs := hbr.size
          by_cases hlt : j < 64
          · have hok := lastB_ok hd.ok (j : Int)
            have hix := indexB0 hok
            have HFB : Hid (byte0 (lastB s1 (j : Int)) = firstF s1.last j) := by show _ = _; rw [lastB_in (by rw [hs1.out.1.len]; exact hlt)]; rfl
            generalize byte0 (lastB s1 (j : Int)) = fb at hix HFB
            have HFP := Lib.hid (first_put s1.last j)
            have HD := Lib.hid hd
            have HA := Lib.hid hA
            have HB := Lib.hid hB
            have HBR := Lib.hid hbr
            have hAl := hA.lt
            have hBl := hB.lt
            clear hd hA hB hbr hok
            go_wp2_with (first
              | (go_at_call 10; refine (lasts_any _ _ _ _ _ _ HD.out).mono ?_; rintro e w3 ⟨rfl, m1⟩; have mA3 := HA.out.below m1 HA.out.lt; have mB3 := Lib.hid (HB.out.below m1 HB.out.lt); have D3 := Lib.hid (HD.out.below m1))
              | (at_mapUpdate; refine wpList_mput rfl (.tmp 58) (.tmp 59) (.tmp 63) 35 3 5 rfl Try.underlying35 Try.underlying3 (j : Int) fb mA3 rfl rfl rfl ?_; intro w4 p1 p2 p3; have P1 := Lib.hid p1; clear p1 p3)
              | (at_lookup; refine wpList_mlook rfl (.tmp 66) (.tmp 67) 35 3 5 rfl Try.underlying35 Try.underlying3 hzu (j : Int) P1.out rfl rfl ?_; rw [mget_mput, if_pos rfl]; have mB4 := mB3.out.grown p2 (by simp; omega))
              | (at_mapUpdate; refine wpList_mput rfl (.tmp 64) (.tmp 65) (.tmp 68) 35 3 5 rfl Try.underlying35 Try.underlying3 (j : Int) fb mB4 rfl rfl rfl ?_; intro w5 u1 u2 u3))
            go_roundw
            case rel =>
              rw [HFB.out, HFP.out] at u1
              have P1' := P1.out
              rw [HFB.out, HFP.out] at P1'
              have z3 := HBR.out.trans (m1.mono hbs)
              have z4 : Below w.heap.size w w4 := z3.grown p2 z3.size (by intro g' e; cases e; exact hw2)
              have D4 := D3.out.keep ((Chg.refl [mA] w3).grown p2 (by simp)) (by simp; omega) (by simp; omega) (by simp; omega)
              exact ⟨j + 1, by omega, by go_num, D4.keep ((Chg.refl [mB] w4).grown u2 (by simp)) (by simp; omega) (by simp; omega) (by simp; omega), P1'.grown u2 (by simp; omega), u1, z4.grown u2 z4.size (by intro g' e; cases e; exact hmB2)⟩
            case measure => simp [intOf]; omega
          · obtain rfl : j = 64 := by omega
            rw [show ((64 : Nat) : Int) = 64 from rfl]
            go_wp2_with fail
            have HTS : Hid (Track s1 s1.last (mapF (upTo 64) (firstF s1.last)) ∧ s1.cache.length ≤ 0) := ⟨track_start hs1.out.1 hs1.out.2.1, by rw [hs1.out.2.1]; exact Nat.le_refl _⟩
            obtain ⟨wn, rfl⟩ : ∃ x : World, x = wr := ⟨_, rfl⟩
            have HD := Lib.hid hd
            have HA := Lib.hid hA
            have HB := Lib.hid hB
            have HBR := Lib.hid hbr
            clear hd hA hB hbr hj hlt
            generalize hL1 : s1.last = L1 at *
            have HL1 := Lib.hid hL1
            clear hL1
            go_loopw [72] (fun i wr => ∃ (j : Nat) (s : DS) (m : List (Int × Int)), j ≤ n2 ∧ i = .int .i64 j ∧ DkAt wr g b l s ∧ MapOf wr mA .i64 (Value.int .u8) (mapF (upTo 64) (firstF L1)) ∧ MapOf wr mB .i64 (Value.int .u8) m ∧ Hid (Track s L1 m ∧ s.cache.length ≤ j ∧ 0 ≤ s.steps ∧ s.steps ≤ 61 + j) ∧ Below w.heap.size w wr) (fun i _ => n2 - (intOf i).toNat)
            case atStart => exact ⟨0, s1, _, by omega, rfl, HD.out, HA.out, HB.out, ⟨HTS.out.1, HTS.out.2, hs1.out.2.2.1, by have := hs1.out.2.2.2; omega⟩, HBR.out⟩
            case round =>
              clear HD HA HB HBR HTS hs1 HL1
              obtain ⟨j, s, m, hj, rfl, hd, hA, hB, hT, hbr⟩ := hrel
              have hbs := hbr.size
              by_cases hlt : j < n2
              · have hq := h2.below hbr
                obtain ⟨ad, x, rfl, hbl, hx, hxo, hc1, hc2, hc3, hc4⟩ := hq.at_ hlt
                obtain ⟨x1, x2⟩ := hxo.b
                have hst : 0 ≤ s.steps ∧ s.steps ≤ 1000000 := ⟨hT.out.2.2.1, by have := hT.out.2.2.2; omega⟩
                have HXB := Lib.hid (oneB_ok ⟨x1, x2⟩)
                have hbx : Below wr.heap.size wr (wr.alloc (.cells #[.int .i64 x.kind, .int .i64 x.at_, .int .u8 x.b, .slice x.kA x.kn x.kc] 30)) := (Below.refl _ wr).alloc (Nat.le_refl _) _
                have HD := Lib.hid (hd.below hbx)
                have HA := Lib.hid (hA.below hbx hA.lt)
                have HB := Lib.hid (hB.below hbx hB.lt)
                have HX := Lib.hid (Blk.new wr 30 #[.int .i64 x.kind, .int .i64 x.at_, .int .u8 x.b, .slice x.kA x.kn x.kc])
                have HBR := Lib.hid (hbr.trans (hbx.mono hbs))
                have hgl := hd.head.lt
                have hbl2 := hd.cache.lt
                have hAl := hA.lt
                have hBl := hB.lt
                have HST := Lib.hid hst
                obtain ⟨z1, z2, z3⟩ := calm_wrote_calm hT.out.1.calm x.at_ (oneB x.b)
                have hcl := track_cache hT.out.1 x.at_ (oneB x.b)
                clear hx hxo hq hd hA hB hbr hbx hst
                by_cases hin : 0 ≤ x.at_ ∧ x.at_ < 64
                · have hw0 : (writeN s x.at_ == 0) = true := by rw [calm_writeN hT.out.1.calm hin]; rfl
                  have HTK := Lib.hid (track_ok hT.out.1 hin x.b)
                  clear hin
                  go_wp2_with (first
                    | (go_at_call 8; refine (write_any _ _ _ _ _ _ _ HD.out HXB.out HST.out).mono ?_; rintro e w3 ⟨rfl, m1, m2⟩; have hX3 := m2.blk HX.out (by simp; omega); have y1 := hX3.cell 1; have y2 := hX3.cell 2; have yl := hX3.lt; have mB3 := m2.map HB.out (by simp; omega); have M1 := Lib.hid m1; clear m1 hX3)
                    | (at_mapUpdate; refine wpList_mput rfl (.tmp 84) (.tmp 86) (.tmp 88) 35 3 5 rfl Try.underlying35 Try.underlying3 x.at_ x.b mB3 rfl rfl rfl ?_; intro w5 u1 u2 u3))
                  go_roundw
                  case rel =>
                    have z4 := HBR.out.trans (m2.below HBR.out.size (by simp; omega))
                    have hA3 := m2.map HA.out (by simp; omega)
                    have b1 := hT.out.2
                    exact ⟨j + 1, _, _, by omega, by go_num, M1.out.keep ((Chg.refl [mB] w3).grown u2 (by simp)) (by simp; omega) (by simp; omega) (by simp; omega), hA3.grown u2 (by simp; omega), u1, ⟨HTK.out, by omega, by omega, by push_cast; omega⟩, z4.grown u2 z4.size (by intro g' e; cases e; exact hmB2)⟩
                  case measure => simp [intOf]; omega
                · have hw0 : (writeN s x.at_ == 0) = false := by rw [calm_writeN_bad hT.out.1.calm hin]; rfl
                  have HW : Hid (wrote s x.at_ (oneB x.b) = s) := calm_wrote_bad hT.out.1.calm hin _
                  clear hin
                  go_wp2_with (first
                    | (go_at_call 8; refine (write_any _ _ _ _ _ _ _ HD.out HXB.out HST.out).mono ?_; rintro e w3 ⟨rfl, m1, m2⟩; have M1 := Lib.hid m1; clear m1))
                  go_roundw
                  case rel =>
                    have z4 := HBR.out.trans (m2.below HBR.out.size (by simp; omega))
                    have hA3 := m2.map HA.out (by simp; omega)
                    have hB3 := m2.map HB.out (by simp; omega)
                    have b1 := hT.out.2
                    have M1' := M1.out
                    rw [HW.out] at M1'
                    exact ⟨j + 1, _, _, by omega, by go_num, M1', hA3, hB3, ⟨hT.out.1, by omega, by omega, by push_cast; omega⟩, z4⟩
                  case measure => simp [intOf]; omega
              · obtain rfl : j = n2 := by omega
                go_wp2_with fail
                have hcl := hT.out.2.1
                refine (waits_any _ _ _ _ _ hd (by omega)).mono ?_
                rintro e w6 ⟨A6, c6, rfl, v1, v2, v3, v4, v5⟩
                have hd6 := hd.below v5
                have hA6 := hA.below v5 hA.lt
                have hB6 := hB.below v5 hB.lt
                have hbr6 := hbr.trans (v5.mono hbs)
                have hwn : (waitL s).length ≤ j := by rw [waitL_len]; exact hcl
                generalize (waitL s).length = wn at hwn v1 ⊢
                clear v1 v2 v3 v4 v5 hd hA hB hbr hbs
                have hbs6 := hbr6.size
                go_wp2_with fail
                refine (crash_any _ _ _ w.heap.size _ _ _ _ kept _ hd6 (by omega) (h3.below hbr6) hbs6 hg' hb' hl').mono ?_
                rintro e w7 ⟨rfl, x7, y7⟩
                have hA7 := y7.map hA6 (by simp; omega)
                have hB7 := y7.map hB6 (by simp; omega)
                have hbr7 := hbr6.trans (y7.below hbs6 (by simp; omega))
                have HCR := Lib.hid (fun (i : Nat) (hi : i < 64) => crash_reads hT.out.1 hd6.ok kept hi)
                have HGA := Lib.hid (fun (i : Nat) (hi : i < 64) => hT.out.1.tells (i : Int) (by omega))
                have HCE : Hid ((crashed s kept).cache = []) := rfl
                clear hd6 hA6 hB6 hbr6 hbs6 y7 hcl
                generalize crashed s kept = sC at x7 HCR HCE
                clear hT
                have HD7 := Lib.hid x7
                have HA7 := Lib.hid hA7
                have HB7 := Lib.hid hB7
                have HR7 := Lib.hid hbr7
                clear x7 hA7 hB7 hbr7
                go_wp2_with fail
                go_loopw [96] (fun i wr => ∃ (t : Nat), t ≤ 64 ∧ i = .int .i64 t ∧ DkAt wr g b l sC ∧ MapOf wr mA .i64 (Value.int .u8) (mapF (upTo 64) (firstF L1)) ∧ MapOf wr mB .i64 (Value.int .u8) m ∧ Below w.heap.size w wr) (fun i _ => 64 - (intOf i).toNat)
                case atStart => exact ⟨0, by omega, rfl, HD7.out, HA7.out, HB7.out, HR7.out⟩
                case round =>
                  clear HD7 HA7 HB7 HR7
                  obtain ⟨t, ht, rfl, hd, hA, hB, hbr⟩ := hrel
                  have hbs := hbr.size
                  by_cases hlt : t < 64
                  · obtain ⟨g1, g2, g3⟩ := HCR.out t hlt
                    have hok := lastB_ok hd.ok (t : Int)
                    have HOK := Lib.hid hok
                    have hga := Lib.hid (first_get (L := L1) (k := 64) (i := (t : Int)) (by omega))
                    have hgm := Lib.hid (HGA.out t hlt)
                    have hg3 : Hid (byte0 (lastB sC t) = firstF L1 t ∨ mget m (t : Int) = some (byte0 (lastB sC t))) := g3
                    clear g3 hok
                    have HD := Lib.hid hd
                    have HA := Lib.hid hA
                    have HB := Lib.hid hB
                    have HBR := Lib.hid hbr
                    clear hd hA hB hbr
                    go_wp2_with fail
                    refine (read_any _ _ _ _ _ _ HD.out).mono ?_
                    rintro e w8 ⟨rfl, m8⟩
                    rw [g1, g2]
                    have heq : ∀ W, (Op.equalIn 10000 33 (.agg (ca (lastB sC t))) (.agg (ca (lastB sC t)))).run Try.prog W = .ok true W := fun W => by rw [equalB HOK.out HOK.out]; simp
                    have HD8 := Lib.hid (HD.out.below m8)
                    have HA8 := Lib.hid (HA.out.below m8 HA.out.lt)
                    have HB8 := Lib.hid (HB.out.below m8 HB.out.lt)
                    have HR8 := Lib.hid (HBR.out.trans (m8.mono hbs))
                    have HF8 := Lib.hid (BlAt.fresh w8)
                    have hs8 := HR8.out.size
                    have l1 := HA8.out.lt
                    have l2 := HB8.out.lt
                    have l3 := HD8.out.head.lt
                    have l4 := HD8.out.cache.lt
                    have l5 := HD8.out.last.1.lt
                    clear HD HA HB HBR m8
                    go_upto_region 31 with (first
                      | ((with_reducible refine wpList_storeB (o := ⟨none, .store _ (.tmp 18) _, _, _, _, _⟩) ?_ (.tmp 18) (.tmp 103) ?_ w8.heap.size zB (lastB sC t) ?_ ?_ HF8.out HOK.out ?_); rfl; rfl; rfl; rfl; intro w9 m9 n9 s9))
                    have hbx8 := (Below.refl w8.heap.size w8).alloc (Nat.le_refl _) (.cells (ca zB) 33)
                    have D9 := (HD8.out.below hbx8).keep n9 (by simp; omega) (by simp; omega) (by simp; omega)
                    have A9 := n9.map (HA8.out.below hbx8 l1) (by simp; omega)
                    have B9 := n9.map (HB8.out.below hbx8 l2) (by simp; omega)
                    have R9 := (HR8.out.trans (hbx8.mono hs8)).trans (n9.below (by simp; omega) (by simp; omega))
                    clear s9 n9 HF8 HD8 HA8 HB8 HR8 hbx8
                    go_cut [129] (fun s129 wx => s129 = .bool false ∧ Below w9.heap.size w9 wx)
                    case first =>
                      have hu := Try.underlying33
                      have hbl := bc_len (lastB sC t)
                      rw [HOK.out.1] at hbl
                      have hi : (Try.prog.info? 33).map (·.size) = some (bc (lastB sC t)).length := infoBl HOK.out
                      have heq2 : ∀ W, (Op.equalIn 10000 33 (.agg (bc (lastB sC t)).toArray) (.agg (ca (lastB sC t)))).run Try.prog W = .ok true W := heq
                      by_cases hne : byte0 (lastB sC t) = firstF L1 t
                      · have hne' : (byte0 (lastB sC t) != firstF L1 t) = false := by simp [hne]
                        obtain ⟨lm, hlm⟩ : ∃ lm, mget m (t : Int) = some lm := ⟨_, hgm.out⟩
                        have HLM := Lib.hid hlm
                        have S1 := Lib.hid (dl_S (W := w9.drew) m9 A9 B9 hga.out HLM.out)
                        clear hne hlm
                        refine region_quiet_C (fun W => Below w9.heap.size w9 W) (by kernel_rfl) (by kernel_rfl) (Below.refl w9.heap.size w9).drew ?_
                        refine quiet_take (.int .i64 0) rfl (by intro W hW; go_simp) ?_
                        try simp only [Act.put, List.setIfInBounds_toArray, List.set_cons_zero, List.set_cons_succ]
                        refine quiet_take (.bool false) rfl (by intro W hW; go_simp) ?_
                        try simp only [Act.put, List.setIfInBounds_toArray, List.set_cons_zero, List.set_cons_succ]
                        refine quiet_take (.bool false) rfl (by intro W hW; go_simp) ?_
                        try simp only [Act.put, List.setIfInBounds_toArray, List.set_cons_zero, List.set_cons_succ]
                        refine quiet_take (.agg (ca (lastB sC t))) rfl (fun W hW => exec_loadB rfl rfl (m9.on hW)) ?_
                        try simp only [Act.put, List.setIfInBounds_toArray, List.set_cons_zero, List.set_cons_succ]
                        refine quiet_take (.pointer (some ⟨g, 0, none⟩)) rfl (by intro W hW; go_simp) ?_
                        try simp only [Act.put, List.setIfInBounds_toArray, List.set_cons_zero, List.set_cons_succ]
                        refine quiet_take (.int .i64 t) rfl (by intro W hW; go_simp) ?_
                        try simp only [Act.put, List.setIfInBounds_toArray, List.set_cons_zero, List.set_cons_succ]
                        refine quiet_call (.agg (ca (lastB sC t))) 10 #[.pointer (some ⟨g, 0, none⟩), .int .i64 t] rfl (by intro W hW; go_simp) (fun W hW => (lasts_any _ _ _ _ _ _ (D9.below hW)).mono fun e w' h => ⟨h.1, hW.trans (h.2.mono hW.size)⟩) ?_
                        try simp only [Act.put, List.setIfInBounds_toArray, List.set_cons_zero, List.set_cons_succ]
                        refine quiet_take (.bool false) rfl (by intro W hW; go_simp) ?_
                        try simp only [Act.put, List.setIfInBounds_toArray, List.set_cons_zero, List.set_cons_succ]
                        refine quiet_take (.bool false) rfl (by intro W hW; go_simp) ?_
                        try simp only [Act.put, List.setIfInBounds_toArray, List.set_cons_zero, List.set_cons_succ]
                        refine quiet_take (.bool false) rfl (by intro W hW; go_simp) ?_
                        try simp only [Act.put, List.setIfInBounds_toArray, List.set_cons_zero, List.set_cons_succ]
                        refine quiet_take (.pointer (some ⟨w8.heap.size, 0, none⟩)) rfl (by intro W hW; go_simp) ?_
                        try simp only [Act.put, List.setIfInBounds_toArray, List.set_cons_zero, List.set_cons_succ]
                        refine quiet_take (.int .u8 (byte0 (lastB sC t))) rfl (by intro W hW; have yc := (dl_S (m9.on hW) (A9.below hW A9.lt) (B9.below hW B9.lt) hga.out HLM.out).2.1; go_simp) ?_
                        try simp only [Act.put, List.setIfInBounds_toArray, List.set_cons_zero, List.set_cons_succ]
                        refine quiet_take (.map (some mA)) rfl (by intro W hW; go_simp) ?_
                        try simp only [Act.put, List.setIfInBounds_toArray, List.set_cons_zero, List.set_cons_succ]
                        refine quiet_take (.int .i64 t) rfl (by intro W hW; go_simp) ?_
                        try simp only [Act.put, List.setIfInBounds_toArray, List.set_cons_zero, List.set_cons_succ]
                        refine quiet_take (.int .u8 (firstF L1 t)) rfl (by intro W hW; have yc := (dl_S (m9.on hW) (A9.below hW A9.lt) (B9.below hW B9.lt) hga.out HLM.out).2.2.1; go_simp) ?_
                        try simp only [Act.put, List.setIfInBounds_toArray, List.set_cons_zero, List.set_cons_succ]
                        refine quiet_take (.bool false) rfl (by intro W hW; go_simp) ?_
                        try simp only [Act.put, List.setIfInBounds_toArray, List.set_cons_zero, List.set_cons_succ]
                        refine quiet_take (.bool false) rfl (by intro W hW; go_simp) ?_
                        try simp only [Act.put, List.setIfInBounds_toArray, List.set_cons_zero, List.set_cons_succ]
                        go_big_quiet_skip
                        go_big_quiet_skip
                        go_big_quiet_skip
                        go_big_quiet_skip
                        go_big_quiet_skip
                        go_big_quiet_skip
                        refine quiet_take (.bool false) rfl (by intro W hW; go_simp) ?_
                        try simp only [Act.put, List.setIfInBounds_toArray, List.set_cons_zero, List.set_cons_succ]
                        refine quiet_take (.bool false) rfl (by intro W hW; go_simp) ?_
                        try simp only [Act.put, List.setIfInBounds_toArray, List.set_cons_zero, List.set_cons_succ]
                        refine wpQuiet_nil fun w10 k10 => ?_
                        go_wp2_with fail
                        go_meet
                        exact ⟨rfl, k10⟩
                      · have hne' : (byte0 (lastB sC t) != firstF L1 t) = true := by simp [hne]
                        have hlm : mget m (t : Int) = some (byte0 (lastB sC t)) := by
                          rcases hg3.out with e | e
                          · exact absurd e hne
                          · exact e
                        have HLM := Lib.hid hlm
                        have S1 := Lib.hid (dl_S (W := w9.drew) m9 A9 B9 hga.out HLM.out)
                        clear hne hlm
                        go_region_held3 (fun W => W.rangeAt w8.heap.size 0 (bc (lastB sC t)) ∧ W.cell? ⟨w8.heap.size, 0, none⟩ = some (.int .u8 (byte0 (lastB sC t))) ∧ (Instr.lookup 35 (.map (some mA)) (.int .i64 t) false).run Try.prog W = .ok (.int .u8 (firstF L1 t)) W ∧ (Instr.lookup 35 (.map (some mB)) (.int .i64 t) false).run Try.prog W = .ok (.int .u8 (byte0 (lastB sC t))) W) (first | exact S2.out | exact S1.out) (first
                          | (go_at_call 10; refine (lasts_any _ _ _ _ _ _ D9.drew).mono ?_; rintro e w10 ⟨rfl, k10⟩; have S2 := Lib.hid (dl_S (BlAt.on (w := w9.drew) m9 k10) (MapOf.below (w := w9.drew) A9 k10 A9.lt) (MapOf.below (w := w9.drew) B9 k10 B9.lt) hga.out HLM.out)))
                        go_wp2_with fail
                        go_meet
                        exact ⟨rfl, (show Below w9.heap.size w9 w9.drew from (Below.refl w9.heap.size w9).drew).trans k10⟩
                    case rest =>
                      obtain ⟨rfl, hwx⟩ := hcut
                      go_wp2
                      go_roundw
                      case rel => exact ⟨t + 1, by omega, by go_num, D9.below hwx, A9.below hwx A9.lt, B9.below hwx B9.lt, R9.trans (hwx.mono R9.size)⟩
                      case measure => simp [intOf]; omega
                  · obtain rfl : t = 64 := by omega
                    rw [show ((64 : Nat) : Int) = 64 from rfl]
                    have hw0 : (waitL sC).length = 0 := by rw [waitL_len, HCE.out]; rfl
                    go_wp2_with (go_at_call 11; refine (waits_any _ _ _ _ _ hd (by rw [HCE.out]; simp)).mono ?_; rintro e w9 ⟨A9, c9, rfl, v1, v2, v3, v4, v5⟩; rw [hw0])
                    go_ret
                    exact ⟨rfl, hbr.trans (v5.mono hbs)⟩
end Go.Proofs.Ytnbaamjdlgojaaa
