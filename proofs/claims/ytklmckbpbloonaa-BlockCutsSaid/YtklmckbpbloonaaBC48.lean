/- Parts of the proof: BkX. -/
import Derived.Test.YtklmckbpbloonaaBC47
namespace Go.Proofs.Ytklmckbpbloonaa
open Go.RowKit

/-- A pair that asks for no more. -/
def okP (vs : List Int) (es : List Edg) (ks : List Int) (a b : Edg) : Prop := a.1 ∈ ks → b.1 ∉ ks → ringB vs es a b = false
/-- Numbers of a class that nothing leads out of. -/
theorem block_closed {vs : List Int} {es : List Edg} (hf : Fit vs es) {ks : List Int} {x : Edg} (hx : x ∈ es) (h1 : x.1 ∈ ks) (h2 : ∀ k ∈ ks, clsL vs es k = clsL vs es x.1) (h3 : ∀ a ∈ es, ∀ b ∈ es, okP vs es ks a b) {z : Edg} (hz : z ∈ es) : z.1 ∈ ks ↔ clsL vs es z.1 = clsL vs es x.1 := by
  refine ⟨h2 z.1, fun h => ?_⟩
  refine block_walk hf (r := clsL vs es x.1) (fun e => e.1 ∈ ks) (fun p hp q hq v a b hc hpk => ?_) (mem_block.2 ⟨hx, rfl⟩) (mem_block.2 ⟨hz, h⟩) h1
  refine Classical.byContradiction fun hqk => ?_
  have := h3 p (mem_block.1 hp).1 q (mem_block.1 hq).1 hpk hqk
  rw [(ring_iff hf (mem_block.1 hp).1 (mem_block.1 hq).1).2 ⟨v, a, b, hc⟩] at this
  cases this
theorem ring_cls {vs : List Int} {es : List Edg} (hf : Fit vs es) {a b : Edg} (ha : a ∈ es) (hb : b ∈ es) (h : ringB vs es a b = true) : clsL vs es b.1 = clsL vs es a.1 := by
  obtain ⟨v, h1, h2, h3⟩ := (ring_iff hf ha hb).1 h
  exact (cls_join hf ha hb h1 h2 h3).symm
theorem IsSet.look {w : World} {g : Nat} {ks : List Int} (h : IsSet w g .u32 ks) (key : Int) : (Instr.lookup 60 (.map (some g)) (.int .u32 key) false).run Try.prog w = .ok (.bool (hasB ks key)) w := by
  have := MapOf.lookup (P := Try.prog) h Try.underlying60 Try.underlying31 (zeroBool _) key
  rw [mget_setM] at this
  rw [this]
  unfold hasB
  by_cases hk : key ∈ ks <;> simp [hk]
def inE (ks : List Int) (x : Edg) : Bool := hasB ks x.1
set_option maxRecDepth 100000 in
set_option maxHeartbeats 8000000 in
theorem rblock_any (B : Nat) (A A' : Option Addr) (n c n' c' : Nat) (vs : List Int) (es : List Edg) (x : Edg) (w : World) (h : RdU w B A n c vs) (h' : RdE w B A' n' c' es) (hB : B ≤ w.heap.size) (hf : Fit vs es) (hx : x ∈ es) :
    Calls Try.prog 86 #[.agg #[.slice A n c, .slice A' n' c'], edV x] w fun e w' => ∃ r A2 c2, e = .returned (.slice A2 (blockL vs es (clsL vs es x.1)).length c2) ∧ OwnE w' r A2 (blockL vs es (clsL vs es x.1)).length c2 (blockL vs es (clsL vs es x.1)) ∧ Below w.heap.size w w' ∧ (∀ g, r = some g → w.heap.size ≤ g) := by
  have HL' := Lib.hid h'.len
  have hn160 : n' ≤ 160 := by have := hf.ne; have := h'.len; omega
  have HF := Lib.hid hf
  have HX := Lib.hid hx
  have hmm := @run_makeMap Try.prog
  have HIDL : Hid ((ids es).length = n') := by show _ = _; unfold ids; rw [List.length_map]; exact h'.len
  have HB0 := Lib.hid ((((Below.refl w.heap.size w).alloc (Nat.le_refl _) (.cells #[.slice A n c, .slice A' n' c'] 25)).alloc (by simp) (.cells #[.int .u32 x.1, .int .u32 x.2.1, .int .u32 x.2.2] 39)).alloc (by simp; omega) (.map #[] 0))
  have HG0 := Lib.hid (((Blk.new w 25 #[.slice A n c, .slice A' n' c']).alloc (.cells #[.int .u32 x.1, .int .u32 x.2.1, .int .u32 x.2.2] 39)).alloc (.map #[] 0))
  have hX0 := (Blk.new (w.alloc (.cells #[.slice A n c, .slice A' n' c'] 25)) 39 #[.int .u32 x.1, .int .u32 x.2.1, .int .u32 x.2.2]).alloc (.map #[] 0)
  have hM0 := MapOf.made ((w.alloc (.cells #[.slice A n c, .slice A' n' c'] 25)).alloc (.cells #[.int .u32 x.1, .int .u32 x.2.1, .int .u32 x.2.2] 39)) .u32 Value.bool
  simp only [World.size_alloc] at hX0 hM0
  have HX0 := Lib.hid hX0
  have HM0 : Hid (IsSet (((w.alloc (.cells #[.slice A n c, .slice A' n' c'] 25)).alloc (.cells #[.int .u32 x.1, .int .u32 x.2.1, .int .u32 x.2.2] 39)).alloc (.map #[] 0)) (w.heap.size + 1 + 1) .u32 []) := hM0
  obtain ⟨xx0, xx1, xx2⟩ := hX0.c3
  have hxl0 := hX0.lt
  clear hX0 hM0 hf hx
  rw [← edV_lit]
  go_enter Try.func86, Try.ntmps86
  go_wp2_with (refine wpList_sins rfl (.tmp 14) (.tmp 16) _ _ 31 4 rfl Try.underlying60 Try.underlying31 x.1 HM0.out rfl rfl rfl ?_; intro w1 k1 k2 k3)
  have HB2 := Lib.hid (HB0.out.grown k2 (by simp; omega) (by intro g hg; cases hg; omega))
  have HG2 := Lib.hid (HG0.out.grown k2 (by simp; omega))
  have HK1 := Lib.hid k1
  clear k1 k2 k3 xx0 xx1 xx2 hxl0
  go_loopg [6] (4 * n' + 8) (fun m gr wr => ∃ (ks : List Int) (g : Bool), gr = .bool g ∧ IsSet wr (w.heap.size + 1 + 1) .u32 ks ∧ Hid (x.1 ∈ ks ∧ (∀ k ∈ ks, k ∈ ids es ∧ clsL vs es k = clsL vs es x.1) ∧ 2 * (n' - ks.length) + (if g then 1 else 0) < m ∧ (g = false → ∀ a ∈ es, ∀ b ∈ es, okP vs es ks a b)) ∧
      Below w.heap.size w wr ∧ Blk wr w.heap.size 25 #[.slice A n c, .slice A' n' c'])
  case atStart =>
    refine ⟨[x.1], true, rfl, HK1.out, ⟨by simp, fun k hk => ?_, by simp; omega, fun h => by cases h⟩, HB2.out, HG2.out⟩
    simp at hk
    rw [hk]
    exact ⟨List.mem_map.2 ⟨x, HX.out, rfl⟩, rfl⟩
  case round =>
    clear HK1 HB2 HG2 HB0 HG0 HX0 HM0
    obtain ⟨ks, g, rfl, hset, HI, hbr, hG⟩ := hrel
    obtain ⟨g0, g1⟩ := hG.c2
    have hsz := hG.lt
    have hszm := MapOf.lt hset
    have HS := Lib.hid hset
    have HBR := Lib.hid hbr
    have HG := Lib.hid hG
    have hkl : ks.length ≤ n' := by rw [← HIDL.out]; exact List.Nodup.length_le_of_subset (IsSet.nodup hset) (fun k hk => (HI.out.2.1 k hk).1)
    clear hset hbr hG
    cases g
    · -- nothing grew
      have HALL : Hid (fltE es (inE ks) n' = blockL vs es (clsL vs es x.1)) := by
        show _ = _
        rw [fltE_all _ _ HL'.out]
        unfold blockL
        refine List.filter_congr fun z hz => ?_
        have := block_closed HF.out HX.out HI.out.1 (fun k hk => (HI.out.2.1 k hk).2) (HI.out.2.2.2 rfl) hz
        unfold inE hasB
        rw [Bool.eq_iff_iff]
        simp only [decide_eq_true_eq, beq_iff_eq]
        exact this
      clear HI
      go_wp2_with fail
      go_loopw [11, 58] (fun ov i w2 => ∃ (k : Nat) (r : Option Nat) (A2 : Option Addr) (c2 : Nat), k ≤ n' ∧ i = .int .i64 k ∧ ov = .slice A2 (fltEN es (inE ks) k) c2 ∧ OwnE w2 r A2 (fltEN es (inE ks) k) c2 (fltE es (inE ks) k) ∧ Below w.heap.size w w2 ∧
          (∀ g, r = some g → w.heap.size ≤ g) ∧ IsSet w2 (w.heap.size + 1 + 1) .u32 ks) (fun _ i _ => n' - (intOf i).toNat)
      case atStart => exact ⟨0, none, none, 0, by omega, rfl, by simp [fltEN, fltE], by simpa [fltEN, fltE] using OwnE.nil_ _ _, HBR.out, by simp, HS.out⟩
      case round =>
        clear HS HBR HG g0 g1 hsz hszm
        obtain ⟨k, r, A2, c2, hk, rfl, rfl, hown, hb2, hrg, hs2⟩ := hrel
        have hle := fltEN_le es (inE ks) k
        by_cases hlt : k < n'
        · obtain ⟨ad, y, rfl, hbl, hy, hyb, hc1, hc2, hc3⟩ := (h'.below (hb2.mono hB)).at_ hlt
          have HN : Hid (fltEN es (inE ks) (k + 1) = fltEN es (inE ks) k + if inE ks y then 1 else 0) := fltEN_succ hy
          have HT : Hid (fltE es (inE ks) (k + 1) = fltE es (inE ks) k ++ if inE ks y then [y] else []) := fltE_succ hy
          have HO := Lib.hid (hown.alloc (.cells #[.int .u32 y.1, .int .u32 y.2.1, .int .u32 y.2.2] 39))
          have HS2 : Hid (IsSet (wr.alloc (.cells #[.int .u32 y.1, .int .u32 y.2.1, .int .u32 y.2.2] 39)) (w.heap.size + 1 + 1) .u32 ks) := MapOf.alloc hs2 (.cells #[.int .u32 y.1, .int .u32 y.2.1, .int .u32 y.2.2] 39)
          have HB3 := Lib.hid (hb2.alloc hb2.size (.cells #[.int .u32 y.1, .int .u32 y.2.1, .int .u32 y.2.2] 39))
          have hbs := hb2.size
          clear hy hown hs2 hb2
          cases hin : hasB ks y.1
          · have HIN : Hid (inE ks y = false) := hin
            go_wp2_with ((at_lookup; refine wpList_slook rfl (.tmp 62) (.tmp 64) _ 31 4 rfl Try.underlying60 Try.underlying31 zeroBool y.1 HS2.out rfl rfl ?_); rw [hin])
            go_roundw
            case rel =>
              have hN := HN.out
              have hT := HT.out
              rw [HIN.out] at hN hT
              simp only [Bool.false_eq_true, if_false, Nat.add_zero, List.append_nil] at hN hT
              exact ⟨k + 1, r, A2, c2, by omega, by go_num, by rw [hN], by rw [hN, hT]; exact HO.out, HB3.out, hrg, HS2.out⟩
            case measure => simp [intOf]; omega
          · have HIN : Hid (inE ks y = true) := hin
            go_wp2_with (first
              | ((at_lookup; refine wpList_slook rfl (.tmp 62) (.tmp 64) _ 31 4 rfl Try.underlying60 Try.underlying31 zeroBool y.1 HS2.out rfl rfl ?_); rw [hin])
              | (at_builtin; refine appE1 rfl (.tmp 66) (.tmp 68) rfl _ r A2 _ c2 (fltE es (inE ks) k) rfl (HO.out.alloc (.cells #[.int .u32 y.1, .int .u32 y.2.1, .int .u32 y.2.2] 39)) (wr.heap.size + 1) y rfl (by have := Blk.new (wr.alloc (.cells #[.int .u32 y.1, .int .u32 y.2.1, .int .u32 y.2.2] 39)) 39 #[.int .u32 y.1, .int .u32 y.2.1, .int .u32 y.2.2]; simp only [World.size_alloc] at this; exact this) hyb (by omega) ?_; intro r3 A3 c3 w5 q1 q2 q3))
            go_roundw
            case rel =>
              have hN := HN.out
              have hT := HT.out
              rw [HIN.out] at hN hT
              simp only [if_true] at hN hT
              have hr3 : ∀ g, r3 = some g → w.heap.size ≤ g := since_of (w := (wr.alloc (.cells #[.int .u32 y.1, .int .u32 y.2.1, .int .u32 y.2.2] 39)).alloc (.cells #[.int .u32 y.1, .int .u32 y.2.1, .int .u32 y.2.2] 39)) (w' := w5) (by simp; omega) hrg q3
              exact ⟨k + 1, r3, A3, c3, by omega, by go_num, by rw [hN], by rw [hN, hT]; exact q1, (HB3.out.alloc HB3.out.size (.cells #[.int .u32 y.1, .int .u32 y.2.1, .int .u32 y.2.2] 39)).grown q2 (by have := HB3.out.size; simp at this ⊢; omega) hrg, hr3, MapOf.grown (MapOf.alloc HS2.out (.cells #[.int .u32 y.1, .int .u32 y.2.1, .int .u32 y.2.2] 39)) q2 (own_map_ne HO.out.1.1 HS2.out)⟩
            case measure => simp [intOf]; omega
        · obtain rfl : n' = k := by omega
          have hN : fltEN es (inE ks) n' = (blockL vs es (clsL vs es x.1)).length := by unfold fltEN; rw [HALL.out]
          rw [hN, HALL.out] at hown
          rw [hN]
          have HO := Lib.hid hown
          have HB3 := Lib.hid hb2
          clear hown hb2 hs2 hN
          go_wp2_with fail
          go_ret
          exact ⟨r, A2, c2, rfl, HO.out, HB3.out, hrg⟩
    · -- once more through the pairs
      have HI1 : Hid (2 * (n' - ks.length) + 1 < gk) := by show _ < _; have := HI.out.2.2.1; simpa using this
      go_wp2_with fail
      go_loopw [6, 22] (fun gr i wr => ∃ (p : Nat) (ks2 : List Int) (g2 : Bool), p ≤ n' ∧ i = .int .i64 p ∧ gr = .bool g2 ∧ IsSet wr (w.heap.size + 1 + 1) .u32 ks2 ∧
          Hid (x.1 ∈ ks2 ∧ (∀ k ∈ ks2, k ∈ ids es ∧ clsL vs es k = clsL vs es x.1) ∧ (g2 = false → ks2 = ks ∧ ∀ i a, i < p → es[i]? = some a → ∀ b ∈ es, okP vs es ks a b) ∧ (g2 = true → ks.length < ks2.length)) ∧
          Below w.heap.size w wr ∧ Blk wr w.heap.size 25 #[.slice A n c, .slice A' n' c']) (fun _ i _ => n' - (intOf i).toNat)
      case atStart => exact ⟨0, ks, false, by omega, rfl, rfl, HS.out, ⟨HI.out.1, HI.out.2.1, fun _ => ⟨rfl, fun i a hi => absurd hi (by omega)⟩, fun h => by cases h⟩, HBR.out, HG.out⟩
      case round =>
        clear HS HBR HG g0 g1 hsz hszm HI
        obtain ⟨p, ks1, g1', hp, rfl, rfl, hs1, HJ, hb1, hG1⟩ := hrel
        obtain ⟨g0, g1⟩ := hG1.c2
        have hsz := hG1.lt
        have hszm := MapOf.lt hs1
        by_cases hltp : p < n'
        · obtain ⟨ad, a, rfl, hbl, ha, hab, hc1, hc2, hc3⟩ := (h'.below (hb1.mono hB)).at_ hltp
          have ham := List.mem_of_getElem? ha
          have HA := Lib.hid ha
          have HAM := Lib.hid ham
          obtain ⟨ga, hga⟩ : ∃ ga, wr.heap.size = ga := ⟨_, rfl⟩
          have hsz2 := hsz
          rw [hga] at hsz2
          have HS1 : Hid (IsSet (wr.alloc (.cells #[.int .u32 a.1, .int .u32 a.2.1, .int .u32 a.2.2] 39)) (w.heap.size + 1 + 1) .u32 ks1) := MapOf.alloc hs1 (.cells #[.int .u32 a.1, .int .u32 a.2.1, .int .u32 a.2.2] 39)
          have HB1 := Lib.hid (hb1.alloc hb1.size (.cells #[.int .u32 a.1, .int .u32 a.2.1, .int .u32 a.2.2] 39))
          have HG1 := Lib.hid (hG1.alloc (.cells #[.int .u32 a.1, .int .u32 a.2.1, .int .u32 a.2.2] 39))
          have hZ := Blk.new wr 39 #[.int .u32 a.1, .int .u32 a.2.1, .int .u32 a.2.2]
          rw [hga] at hZ
          have HZA := Lib.hid hZ
          have hbs := hb1.size
          have hga1 : w.heap.size + 1 + 1 < ga := by rw [← hga]; exact hszm
          clear ha ham hs1 hb1 hG1 hZ
          go_wp2_with fail
          go_loopw [6, 29] (fun gr i wr => ∃ (q : Nat) (ks2 : List Int) (g2 : Bool), q ≤ n' ∧ i = .int .i64 q ∧ gr = .bool g2 ∧ IsSet wr (w.heap.size + 1 + 1) .u32 ks2 ∧
              Hid (x.1 ∈ ks2 ∧ (∀ k ∈ ks2, k ∈ ids es ∧ clsL vs es k = clsL vs es x.1) ∧ (g2 = false → ks2 = ks ∧ (∀ i a, i < p → es[i]? = some a → ∀ b ∈ es, okP vs es ks a b) ∧ ∀ i b, i < q → es[i]? = some b → okP vs es ks a b) ∧ (g2 = true → ks.length < ks2.length)) ∧
              Below w.heap.size w wr ∧ Blk wr w.heap.size 25 #[.slice A n c, .slice (some ad) n' c'] ∧ Blk wr ga 39 #[.int .u32 a.1, .int .u32 a.2.1, .int .u32 a.2.2]) (fun _ i _ => n' - (intOf i).toNat)
          case atStart => exact ⟨0, ks1, g1', by omega, rfl, rfl, HS1.out, ⟨HJ.out.1, HJ.out.2.1, fun h => ⟨(HJ.out.2.2.1 h).1, (HJ.out.2.2.1 h).2, fun i b hi => absurd hi (by omega)⟩, HJ.out.2.2.2⟩, HB1.out, HG1.out, HZA.out⟩
          case round =>
            clear HS1 HB1 HG1 HZA HJ g0 g1 hsz hszm
            obtain ⟨q, ks2, g2, hq, rfl, rfl, hs2, HJ, hb2, hG2, hZ⟩ := hrel
            obtain ⟨g0, g1⟩ := hG2.c2
            have hsz := hG2.lt
            have hszm := MapOf.lt hs2
            by_cases hltq : q < n'
            · obtain ⟨ad2, b, hee, hbl2, hb, hbb, hd1, hd2, hd3⟩ := (h'.below (hb2.mono hB)).at_ hltq
              injection hee with hee
              subst hee
              have hbm := List.mem_of_getElem? hb
              have HB_ := Lib.hid hb
              have HBM := Lib.hid hbm
              obtain ⟨gb, hgb⟩ : ∃ gb, wr.heap.size = gb := ⟨_, rfl⟩
              have hsz3 := hsz
              rw [hgb] at hsz3
              have HS2 : Hid (IsSet (wr.alloc (.cells #[.int .u32 b.1, .int .u32 b.2.1, .int .u32 b.2.2] 39)) (w.heap.size + 1 + 1) .u32 ks2) := MapOf.alloc hs2 (.cells #[.int .u32 b.1, .int .u32 b.2.1, .int .u32 b.2.2] 39)
              have HB2 := Lib.hid (hb2.alloc hb2.size (.cells #[.int .u32 b.1, .int .u32 b.2.1, .int .u32 b.2.2] 39))
              have HG2 := Lib.hid (hG2.alloc (.cells #[.int .u32 b.1, .int .u32 b.2.1, .int .u32 b.2.2] 39))
              have HZA2 := Lib.hid (hZ.alloc (.cells #[.int .u32 b.1, .int .u32 b.2.1, .int .u32 b.2.2] 39))
              have hZb := Blk.new wr 39 #[.int .u32 b.1, .int .u32 b.2.1, .int .u32 b.2.2]
              rw [hgb] at hZb
              have HZB2 := Lib.hid hZb
              obtain ⟨za0, za1, za2⟩ := hZ.c3
              have hzal := hZ.lt
              rw [hgb] at hzal
              have hbs2 := hb2.size
              -- no more is asked of this pair
              have hsame : okP vs es ks2 a b → (x.1 ∈ ks2 ∧ (∀ k ∈ ks2, k ∈ ids es ∧ clsL vs es k = clsL vs es x.1) ∧ (g2 = false → ks2 = ks ∧ (∀ i a, i < p → es[i]? = some a → ∀ b ∈ es, okP vs es ks a b) ∧ ∀ i b, i < q + 1 → es[i]? = some b → okP vs es ks a b) ∧ (g2 = true → ks.length < ks2.length)) := fun hok =>
                ⟨HJ.out.1, HJ.out.2.1, fun h => ⟨(HJ.out.2.2.1 h).1, (HJ.out.2.2.1 h).2.1, fun i b' hi hb' => by
                  by_cases e : i = q
                  · subst e
                    rw [HB_.out] at hb'
                    injection hb' with hb'
                    rw [← hb', ← (HJ.out.2.2.1 h).1]; exact hok
                  · exact (HJ.out.2.2.1 h).2.2 i b' (by omega) hb'⟩, HJ.out.2.2.2⟩
              have HSM := Lib.hid hsame
              clear hb hbm hs2 hb2 hG2 hZ hZb hsame
              cases h1 : hasB ks2 a.1
              · go_wp2_with ((at_lookup; refine wpList_slook rfl (.tmp 33) (.tmp 35) _ 31 4 rfl Try.underlying60 Try.underlying31 zeroBool a.1 HS2.out rfl rfl ?_); rw [h1])
                go_roundw
                case rel => exact ⟨q + 1, ks2, g2, by omega, by go_num, rfl, HS2.out, HSM.out (fun h => absurd h (hasB_not.1 h1)), HB2.out, HG2.out, HZA2.out⟩
                case measure => simp [intOf]; omega
              · cases h2 : hasB ks2 b.1
                · have hlb := IsSet.look HS2.out b.1
                  rw [h2] at hlb
                  go_wp2_with ((at_lookup; refine wpList_slook rfl (.tmp 33) (.tmp 35) _ 31 4 rfl Try.underlying60 Try.underlying31 zeroBool a.1 HS2.out rfl rfl ?_); rw [h1])
                  rw [edV_lit, edV_lit]
                  refine (ring_any B _ _ _ _ _ _ vs es a b _ (h.below (HB2.out.mono hB)) (h'.below (HB2.out.mono hB)) (by have := HB2.out.size; omega) HF.out HAM.out HBM.out).mono ?_
                  rintro e w5 ⟨rfl, k5⟩
                  have HS5 : Hid (IsSet w5 (w.heap.size + 1 + 1) .u32 ks2) := MapOf.below HS2.out k5 (MapOf.lt HS2.out)
                  have HB5 := Lib.hid (HB2.out.trans (k5.mono HB2.out.size))
                  have HG5 := Lib.hid (HG2.out.below k5 HG2.out.lt)
                  have HZA5 := Lib.hid (HZA2.out.below k5 HZA2.out.lt)
                  have hZB5 := HZB2.out.below k5 HZB2.out.lt
                  obtain ⟨zb0, zb1, zb2⟩ := hZB5.c3
                  have hzbl := hZB5.lt
                  clear k5 HS2 HB2 HG2 HZA2 HZB2 hZB5
                  cases h3 : ringB vs es a b
                  · go_wp2_with fail
                    go_roundw
                    case rel =>
                      (repeat apply Exists.intro)
                      exact ⟨⟨q + 1, ks2, g2, by omega, by go_num, rfl, HS5.out, HSM.out (fun _ _ => h3), HB5.out, HG5.out, HZA5.out⟩, rfl⟩
                    case measure => simp [intOf]; omega
                  · have HRG := Lib.hid (ring_cls HF.out HAM.out HBM.out h3)
                    have hks : Hid (ks.length ≤ ks2.length) := by
                      show _ ≤ _
                      cases g2
                      · rw [(HJ.out.2.2.1 rfl).1]; exact Nat.le_refl _
                      · exact Nat.le_of_lt (HJ.out.2.2.2 rfl)
                    go_wp2_with (refine wpList_sput rfl (.tmp 50) (.tmp 52) _ _ 31 4 rfl Try.underlying60 Try.underlying31 b.1 HS5.out rfl rfl rfl ?_; intro w6 m1 m2 m3)
                    go_roundw
                    case rel =>
                      (repeat apply Exists.intro)
                      refine ⟨⟨q + 1, addK ks2 b.1, true, by omega, by go_num, rfl, m1, ⟨mem_addK.2 (.inl HJ.out.1), fun k hk => ?_, fun h => (by cases h), fun _ => ?_⟩, HB5.out.grown m2 HB5.out.size (by intro g hg; cases hg; omega), HG5.out.grown m2 (by simp; omega), HZA5.out.grown m2 (by simp; omega)⟩, rfl⟩
                      · rcases mem_addK.1 hk with hk | hk
                        · exact HJ.out.2.1 k hk
                        · rw [hk]
                          exact ⟨List.mem_map.2 ⟨b, HBM.out, rfl⟩, HRG.out.trans (HJ.out.2.1 _ (hasB_iff.1 h1)).2⟩
                      · have e1 := (len_addK ks2 b.1).2.2 (hasB_not.1 h2)
                        have e2 := hks.out
                        omega
                    case measure => simp [intOf]; omega
                · have hlb := IsSet.look HS2.out b.1
                  rw [h2] at hlb
                  go_wp2_with ((at_lookup; refine wpList_slook rfl (.tmp 33) (.tmp 35) _ 31 4 rfl Try.underlying60 Try.underlying31 zeroBool a.1 HS2.out rfl rfl ?_); rw [h1])
                  go_roundw
                  case rel => exact ⟨q + 1, ks2, g2, by omega, by go_num, rfl, HS2.out, HSM.out (fun _ h => absurd (hasB_iff.1 h2) h), HB2.out, HG2.out, HZA2.out⟩
                  case measure => simp [intOf]; omega
            · obtain rfl : n' = q := by omega
              have HS2 := Lib.hid hs2
              have HB2 := Lib.hid hb2
              have HG2 := Lib.hid hG2
              clear hs2 hb2 hG2 hZ
              go_wp2_with fail
              go_roundw
              case rel =>
                refine ⟨p + 1, ks2, g2, by omega, by go_num, rfl, HS2.out, ⟨HJ.out.1, HJ.out.2.1, fun h => ⟨(HJ.out.2.2.1 h).1, fun i a' hi ha' b hb => ?_⟩, HJ.out.2.2.2⟩, HB2.out, HG2.out⟩
                by_cases e : i = p
                · subst e
                  rw [HA.out] at ha'
                  injection ha' with ha'
                  rw [← ha']
                  obtain ⟨j, hj, e2⟩ := List.mem_iff_getElem.1 hb
                  exact (HJ.out.2.2.1 h).2.2 j b (by have := HL'.out; omega) (by rw [List.getElem?_eq_getElem hj, e2])
                · exact (HJ.out.2.2.1 h).2.1 i a' (by omega) ha' b hb
              case measure => simp [intOf]; omega
        · obtain rfl : n' = p := by omega
          have hkl1 : ks1.length ≤ n' := by rw [← HIDL.out]; exact List.Nodup.length_le_of_subset (IsSet.nodup hs1) (fun k hk => (HJ.out.2.1 k hk).1)
          have HS1 := Lib.hid hs1
          have HB1 := Lib.hid hb1
          have HG1 := Lib.hid hG1
          clear hs1 hb1 hG1
          go_wp2_with fail
          go_roundg (2 * (n' - ks1.length) + (if g1' then 1 else 0) + 1)
          case measure =>
            have h1 := HI1.out
            cases g1'
            · rw [(HJ.out.2.2.1 rfl).1]; simp; omega
            · have h3 := HJ.out.2.2.2 rfl
              simp; omega
          case rel => exact ⟨ks1, g1', rfl, HS1.out, ⟨HJ.out.1, HJ.out.2.1, by omega, fun hg a ha b hb => by
              obtain ⟨i, hi, e1⟩ := List.mem_iff_getElem.1 ha
              have := (HJ.out.2.2.1 hg).2 i a (by have := HL'.out; omega) (by rw [List.getElem?_eq_getElem hi, e1]) b hb
              rwa [(HJ.out.2.2.1 hg).1]⟩, HB1.out, HG1.out⟩
end Go.Proofs.Ytklmckbpbloonaa
