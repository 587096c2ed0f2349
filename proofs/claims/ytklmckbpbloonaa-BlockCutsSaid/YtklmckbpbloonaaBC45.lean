/- Parts of the proof: UnM. -/
import Derived.Test.YtklmckbpbloonaaBC36
import Derived.Test.YtklmckbpbloonaaBC1
namespace Go.Proofs.Ytklmckbpbloonaa
open Go.RowKit

theorem stepK_len {α : Type} (key : α → Int) (v : α) (s : List α × Bool) (x : α) : (stepK key v s x).1.length ≤ s.1.length + 1 + (if s.2 = true then 0 else if (stepK key v s x).2 = true then 1 else 0) := by
  obtain ⟨l, d⟩ := s
  unfold stepK
  cases d
  · by_cases h : key v < key x
    · simp [h]
    · simp [h]
  · simp
theorem insTo_len {α : Type} (key : α → Int) (l : List α) (v : α) : ∀ k, (insTo key l v k).1.length ≤ k + (if (insTo key l v k).2 = true then 1 else 0)
  | 0 => by rw [insTo_zero]; simp
  | k + 1 => by
    have ih := insTo_len key l v k
    cases h : l[k]? with
    | none =>
      have e : insTo key l v (k + 1) = insTo key l v k := by
        unfold insTo; rw [List.take_add_one, h]; simp
      rw [e]; omega
    | some x =>
      rw [insTo_succ h]
      have := stepK_len key v (insTo key l v k) x
      generalize insTo key l v k = s at ih this ⊢
      obtain ⟨t, d⟩ := s
      cases d
      · simp only [Bool.false_eq_true, if_false] at ih this ⊢
        split at this <;> simp_all <;> omega
      · have e2 : (stepK key v (t, true) x).2 = true := by simp [stepK]
        simp only [if_true] at ih this
        rw [e2]; simp; omega
def mkN {α : Type} (key : α → Int) (vs : List α) (k : Nat) : Nat := (makeTo key vs k).length
theorem mkN_le {α : Type} (key : α → Int) (vs : List α) (k : Nat) : mkN key vs k ≤ k := makeTo_len key vs k
theorem hasB_id (l : List Int) (v : Int) : decide (id v ∈ l.map id) = hasB l v := by rw [List.map_id]; rfl
theorem insTo_id0 (l : List Int) (v : Int) : insTo id l v 0 = ([], hasB l v) := by rw [insTo_zero, hasB_id]
theorem stepK_d {α : Type} (key : α → Int) (v : α) (nx : List α) (x : α) : stepK key v (nx, true) x = (nx ++ [x], true) := by simp [stepK]
theorem stepK_y {α : Type} {key : α → Int} {v : α} {nx : List α} {x : α} (h : key v < key x) : stepK key v (nx, false) x = (nx ++ [v, x], true) := by simp [stepK, h]
theorem stepK_n {α : Type} {key : α → Int} {v : α} {nx : List α} {x : α} (h : ¬ key v < key x) : stepK key v (nx, false) x = (nx ++ [x], false) := by simp [stepK, h]
/-- Blocks of a call's own since then. -/
theorem since_of {w w' : World} {B : Nat} {r r' : Option Nat} (hB : B ≤ w.heap.size) (hr : ∀ g, r = some g → B ≤ g) (h : r' = r ∨ ∀ g, r' = some g → w.heap.size ≤ g) : ∀ g, r' = some g → B ≤ g := fun g e => by
  rcases h with h | h
  · exact hr g (by rw [← h, e])
  · have := h g e; omega
set_option maxRecDepth 100000 in
set_option maxHeartbeats 4000000 in
theorem rmake_any (B : Nat) (A A' : Option Addr) (n c n' c' : Nat) (vs : List Int) (es : List Edg) (w : World) (h : RdU w B A n c vs) (h' : RdE w B A' n' c' es) (hn : n ≤ 1000000) (hn' : n' ≤ 1000000) (hB : B ≤ w.heap.size) :
    Calls Try.prog 72 #[.slice A n c, .slice A' n' c'] w fun e w' => ∃ r1 A1 c1 r2 A2 c2, e = .returned (.agg #[.slice A1 (mkN id vs n) c1, .slice A2 (mkN Prod.fst es n') c2]) ∧
      OwnU w' r1 A1 (mkN id vs n) c1 (makeTo id vs n) ∧ OwnE w' r2 A2 (mkN Prod.fst es n') c2 (makeTo Prod.fst es n') ∧ Below w.heap.size w w' ∧ (∀ g, r1 = some g → w.heap.size ≤ g) ∧ (∀ g, r2 = some g → w.heap.size ≤ g) := by
  obtain ⟨hnc, hcc⟩ := h.bd
  obtain ⟨hnc', hcc'⟩ := h'.bd
  have HB0 := Lib.hid (((Below.refl w.heap.size w).alloc (Nat.le_refl _) (.cells #[.slice none 0 0, .slice none 0 0] 25)).alloc (by simp) (.cells #[.slice none 0 0, .slice none 0 0] 25))
  have HR0 := Lib.hid ((Blk.new w 25 #[.slice none 0 0, .slice none 0 0]).alloc (.cells #[.slice none 0 0, .slice none 0 0] 25))
  have hG0 := Blk.new (w.alloc (.cells #[.slice none 0 0, .slice none 0 0] 25)) 25 #[.slice none 0 0, .slice none 0 0]
  simp only [World.size_alloc] at hG0
  have HG0 := Lib.hid hG0
  clear hG0
  go_enter Try.func72, Try.ntmps72
  go_wp2_with fail
  go_loopw [20] (fun i wr => ∃ (k : Nat) (r1 : Option Nat) (A1 : Option Addr) (c1 : Nat), k ≤ n ∧ i = .int .i64 k ∧ OwnU wr r1 A1 (mkN id vs k) c1 (makeTo id vs k) ∧ (∀ g, r1 = some g → w.heap.size + 2 ≤ g) ∧ Below w.heap.size w wr ∧
      Blk wr w.heap.size 25 #[.slice none 0 0, .slice none 0 0] ∧ Blk wr (w.heap.size + 1) 25 #[.slice A1 (mkN id vs k) c1, .slice none 0 0]) (fun i _ => n - (intOf i).toNat)
  case atStart => exact ⟨0, none, none, 0, by omega, rfl, by simpa [mkN, makeTo] using OwnU.nil_ _ _, by simp, HB0.out, HR0.out, by simpa [mkN, makeTo] using HG0.out⟩
  case round =>
    clear HB0 HR0 HG0
    obtain ⟨k, r1, A1, c1, hk, rfl, hown, hr1, hbr, hR, hG⟩ := hrel
    have hmk := mkN_le id vs k
    by_cases hlt : k < n
    · have hq := h.below (hbr.mono hB)
      obtain ⟨ad, v, rfl, hbl, hv, hvb, hc1⟩ := hq.at_ hlt
      obtain ⟨g0, g1⟩ := hG.c2
      have HV : Hid (makeTo id vs (k + 1) = putK id (makeTo id vs k) v) := makeTo_succ hv
      have HO := Lib.hid hown
      have HR := Lib.hid hR
      have HG := Lib.hid hG
      have HBR := Lib.hid hbr
      have hgl := hG.lt
      clear hv hown hR hbr hq
      obtain ⟨cur, hcur⟩ : ∃ cur, makeTo id vs k = cur := ⟨_, rfl⟩
      obtain ⟨m, hm⟩ : ∃ m, mkN id vs k = m := ⟨_, rfl⟩
      rw [hcur] at HV HO
      rw [hm] at HO HG hmk g0
      clear hG
      go_wp2_with fail
      refine (has_any _ _ _ _ cur _ v _ HO.out.rd (Nat.le_refl _)).mono ?_
      rintro e wo ⟨rfl, B1⟩
      have hO1 := HO.out.below B1 HO.out.lt
      have hR1 := HR.out.below B1 HR.out.lt
      have hG1 := HG.out.below B1 HG.out.lt
      have HBo := Lib.hid (HBR.out.trans (B1.mono HBR.out.size))
      have HOo := Lib.hid hO1
      have HRo := Lib.hid hR1
      have HGo := Lib.hid hG1
      obtain ⟨o0, o1⟩ := hG1.c2
      have hol := hG1.lt
      have HI0 : Hid (insTo id cur v 0 = ([], hasB cur v)) := insTo_id0 cur v
      clear B1 hO1 hR1 hG1 HO HR HG HBR g0 g1
      go_wp2_with fail
      go_loopw [8, 9, 30] (fun s8 s9 i wr => ∃ (j : Nat) (R2 : Option Nat) (A2 : Option Addr) (c2 : Nat) (nx : List Int) (dn : Bool), j ≤ m ∧ i = .int .i64 j ∧ s8 = .slice A2 nx.length c2 ∧ s9 = .bool dn ∧ Hid (insTo id cur v j = (nx, dn)) ∧ OwnU wr R2 A2 nx.length c2 nx ∧ (∀ g, R2 = some g → wo.heap.size ≤ g) ∧ Below wo.heap.size wo wr) (fun _ _ i _ => m - (intOf i).toNat)
      case atStart => exact ⟨0, none, none, 0, [], hasB cur v, by omega, rfl, rfl, rfl, HI0, OwnU.nil_ _ _, by simp, Below.refl _ _⟩
      case round =>
        clear HI0
        obtain ⟨j, R2, A2, c2, nx, dn, hj, rfl, rfl, rfl, HI, hO2, hR2, hB2⟩ := hrel
        have hnl : nx.length ≤ j + 1 := by have := insTo_len id cur v j; rw [HI.out] at this; simp only at this; split at this <;> omega
        have HO2 := Lib.hid hO2
        have HB2 := Lib.hid hB2
        clear hO2
        by_cases hlt2 : j < m
        · have hq2 := HOo.out.rd.below hB2
          obtain ⟨ad2, x, rfl, hbl2, hx, hxb, hc2⟩ := hq2.at_ hlt2
          have HS : Hid (insTo id cur v (j + 1) = stepK id v (nx, dn) x) := by show _ = _; rw [insTo_succ hx, HI.out]
          clear hx hB2 hq2
          cases dn
          · by_cases hvx : v < x
            · have HVX := Lib.hid hvx
              go_wp2_with (first
                | (at_builtin; refine appU1 rfl (.tmp 41) (.tmp 43) rfl _ R2 _ _ c2 nx rfl (HO2.out.alloc _) wr.heap.size v rfl (Blk.new _ _ _) hvb (by omega) ?_; intro r3 A3 c3 w3 m1 m2 m3)
                | (at_builtin; refine appU1 rfl (.tmp 45) (.tmp 47) rfl _ r3 _ _ c3 (nx ++ [v]) rfl (m1.alloc _) w3.heap.size x rfl (Blk.new _ _ _) hxb (by omega) ?_; intro r4 A4 c4 w4 q1 q2 q3))
              go_roundw
              case rel =>
                have hs3 := m2.size
                have z0 := HB2.out.size
                simp only [World.size_alloc] at hs3
                have hr3 := since_of (B := wo.heap.size) (w := wr.alloc (.cells #[.int .u32 v] 31)) (w' := w3) (by simp; omega) hR2 m3
                have hr4 := since_of (B := wo.heap.size) (w := w3.alloc (.cells #[.int .u32 x] 31)) (w' := w4) (by simp; omega) hr3 q3
                have hB3 := (HB2.out.alloc HB2.out.size (.cells #[.int .u32 v] 31)).grown m2 (by simp; omega) hR2
                have hB4 := (hB3.alloc hB3.size (.cells #[.int .u32 x] 31)).grown q2 (by have := hB3.size; simp; omega) hr3
                have hnx : (nx ++ [v] ++ [x]).length = nx.length + 1 + 1 := by simp
                exact ⟨j + 1, r4, A4, c4, nx ++ [v] ++ [x], true, by omega, by go_num, by rw [hnx], rfl, by show _ = _; rw [HS.out, stepK_y (key := id) HVX.out]; simp, by rw [hnx]; exact q1, hr4, hB4⟩
              case measure => simp [intOf]; omega
            · have hvx' : decide (v < x) = false := by simpa using hvx
              have HVX := Lib.hid hvx
              clear hvx
              go_wp2_with (first
                | (at_builtin; refine appU1 rfl (.tmp 45) (.tmp 47) rfl _ R2 _ _ c2 nx rfl (HO2.out.alloc _) wr.heap.size x rfl (Blk.new _ _ _) hxb (by omega) ?_; intro r3 A3 c3 w3 m1 m2 m3))
              go_roundw
              case rel =>
                have z0 := HB2.out.size
                have hr3 := since_of (B := wo.heap.size) (w := wr.alloc (.cells #[.int .u32 x] 31)) (w' := w3) (by simp; omega) hR2 m3
                have hB3 := (HB2.out.alloc HB2.out.size (.cells #[.int .u32 x] 31)).grown m2 (by simp; omega) hR2
                have hnx : (nx ++ [x]).length = nx.length + 1 := by simp
                exact ⟨j + 1, r3, A3, c3, nx ++ [x], false, by omega, by go_num, by rw [hnx], rfl, by show _ = _; rw [HS.out, stepK_n (key := id) HVX.out], by rw [hnx]; exact m1, hr3, hB3⟩
              case measure => simp [intOf]; omega
          · go_wp2_with (first
              | (at_builtin; refine appU1 rfl (.tmp 45) (.tmp 47) rfl _ R2 _ _ c2 nx rfl (HO2.out.alloc _) wr.heap.size x rfl (Blk.new _ _ _) hxb (by omega) ?_; intro r3 A3 c3 w3 m1 m2 m3))
            go_roundw
            case rel =>
              have z0 := HB2.out.size
              have hr3 := since_of (B := wo.heap.size) (w := wr.alloc (.cells #[.int .u32 x] 31)) (w' := w3) (by simp; omega) hR2 m3
              have hB3 := (HB2.out.alloc HB2.out.size (.cells #[.int .u32 x] 31)).grown m2 (by simp; omega) hR2
              have hnx : (nx ++ [x]).length = nx.length + 1 := by simp
              exact ⟨j + 1, r3, A3, c3, nx ++ [x], true, by omega, by go_num, by rw [hnx], rfl, by show _ = _; rw [HS.out, stepK_d], by rw [hnx]; exact m1, hr3, hB3⟩
            case measure => simp [intOf]; omega
        · obtain rfl : j = m := by omega
          have HF : Hid (finK v (nx, dn) = putK id cur v) := by
            show _ = _; rw [← HI.out]; exact insTo_all HOo.out.len
          have hBo := HBo.out.trans (HB2.out.mono HBo.out.size)
          have hRn := HRo.out.below HB2.out HRo.out.lt
          have hGn := HGo.out.below HB2.out HGo.out.lt
          have HRn := Lib.hid hRn
          have HGn := Lib.hid hGn
          have HBn := Lib.hid hBo
          have hgl := hGn.lt
          obtain ⟨g0, g1⟩ := hGn.c2
          have f0 := hGn.frozen 0
          clear hBo hRn hGn hB2 HRo HGo HOo HBo o0 o1
          cases dn
          · go_wp2_with (first
              | (at_builtin; refine appU1 rfl (.tmp 52) (.tmp 54) rfl _ R2 _ _ c2 nx rfl (HO2.out.alloc _) wr.heap.size v rfl (Blk.new _ _ _) hvb (by omega) ?_; intro r3 A3 c3 w3 m1 m2 m3; have hG3 := (HGn.out.alloc (.cells #[.int .u32 v] 31)).grown m2 (fun e => by have := hR2 _ e.symm; omega); have hgl3 := hG3.lt; obtain ⟨k0, k1⟩ := hG3.c2; have kf0 := hG3.frozen 0))
            go_roundw
            case rel =>
              have hmk1 : mkN id vs (k + 1) = nx.length + 1 := by unfold mkN; rw [HV.out, ← HF.out]; simp [finK]
              have hmk2 : makeTo id vs (k + 1) = nx ++ [v] := by rw [HV.out, ← HF.out]; rfl
              have hR3 := (HRn.out.alloc (.cells #[.int .u32 v] 31)).grown m2 (fun e => by have := hR2 _ e.symm; omega)
              have hr3 := since_of (B := wo.heap.size) (w := wr.alloc (.cells #[.int .u32 v] 31)) (w' := w3) (by have := HB2.out.size; simp; omega) hR2 m3
              have hB3 := (HBn.out.alloc HBn.out.size (.cells #[.int .u32 v] 31)).grown m2 (by have := HBn.out.size; simp; omega) (fun g e => by have := hR2 g e; omega)
              exact ⟨k + 1, r3, A3, c3, by omega, by go_num, by rw [hmk1, hmk2]; exact m1.setCell_far (fun g e => by have := hr3 g e; simp; omega) _, fun g e => by have := hr3 g e; omega, hB3.setCell (by simp) _, hR3.far (by simp) _, by rw [hmk1]; simpa using hG3.set_ 0 _⟩
            case measure => simp [intOf]; omega
          · go_wp2_with fail
            go_roundw
            case rel =>
              have hmk1 : mkN id vs (k + 1) = nx.length := by unfold mkN; rw [HV.out, ← HF.out]; simp [finK]
              have hmk2 : makeTo id vs (k + 1) = nx := by rw [HV.out, ← HF.out]; rfl
              exact ⟨k + 1, R2, A2, c2, by omega, by go_num, by rw [hmk1, hmk2]; exact HO2.out.setCell_far (fun g e => by have := hR2 g e; simp; omega) _, fun g e => by have := hR2 g e; omega, HBn.out.setCell (by simp) _, HRn.out.far (by simp) _, by rw [hmk1]; simpa using HGn.out.set_ 0 _⟩
            case measure => simp [intOf]; omega
    · obtain rfl : k = n := by omega
      obtain ⟨wo, rfl⟩ : ∃ wo : World, wo = wr := ⟨_, rfl⟩
      obtain ⟨g0, g1⟩ := hG.c2
      obtain ⟨cur, hcur⟩ : ∃ cur, makeTo id vs k = cur := ⟨_, rfl⟩
      obtain ⟨m, hm⟩ : ∃ m, mkN id vs k = m := ⟨_, rfl⟩
      rw [hcur, hm] at hown
      rw [hm] at hG g0
      have hgl := hG.lt
      have HO := Lib.hid hown
      have HR := Lib.hid hR
      have HG := Lib.hid hG
      have HBR := Lib.hid hbr
      have hb0 := hbr.size
      clear hown hR hG hbr
      go_wp2_with fail
      go_loopw [13, 17, 61] (fun _ _ i wr => ∃ (q : Nat) (r2 : Option Nat) (A2 : Option Addr) (c2 : Nat), q ≤ n' ∧ i = .int .i64 q ∧ OwnE wr r2 A2 (mkN Prod.fst es q) c2 (makeTo Prod.fst es q) ∧ (∀ g, r2 = some g → wo.heap.size ≤ g) ∧ OwnU wr r1 A1 m c1 cur ∧ Below w.heap.size w wr ∧ wo.heap.size ≤ wr.heap.size ∧
          Blk wr w.heap.size 25 #[.slice none 0 0, .slice none 0 0] ∧ Blk wr (w.heap.size + 1) 25 #[.slice A1 m c1, .slice A2 (mkN Prod.fst es q) c2]) (fun _ _ i _ => n' - (intOf i).toNat)
      case atStart => exact ⟨0, none, none, 0, by omega, rfl, by simpa [mkN, makeTo] using OwnE.nil_ _ _, by simp, HO.out, HBR.out, Nat.le_refl _, HR.out, by simpa [mkN, makeTo] using HG.out⟩
      case round =>
        have HOL := Lib.hid HO.out.lt
        clear HO HR HG HBR g0 g1
        obtain ⟨q, r2, A2, c2, hq, rfl, hown, hr2, hou, hbr, hsz, hR, hG⟩ := hrel
        have hmk := mkN_le Prod.fst es q
        by_cases hlt : q < n'
        · have hqe := h'.below (hbr.mono hB)
          obtain ⟨ad, v, rfl, hbl, hv, hvb, hc1, hc2, hc3⟩ := hqe.at_ hlt
          obtain ⟨g0, g1⟩ := hG.c2
          have HV : Hid (makeTo Prod.fst es (q + 1) = putK Prod.fst (makeTo Prod.fst es q) v) := makeTo_succ hv
          have HX := Lib.hid (Blk.new wr 39 #[.int .u32 v.1, .int .u32 v.2.1, .int .u32 v.2.2])
          have HO := Lib.hid (hown.alloc (.cells #[.int .u32 v.1, .int .u32 v.2.1, .int .u32 v.2.2] 39))
          have HOU := Lib.hid (hou.alloc (.cells #[.int .u32 v.1, .int .u32 v.2.1, .int .u32 v.2.2] 39))
          have HR := Lib.hid (hR.alloc (.cells #[.int .u32 v.1, .int .u32 v.2.1, .int .u32 v.2.2] 39))
          have HG := Lib.hid (hG.alloc (.cells #[.int .u32 v.1, .int .u32 v.2.1, .int .u32 v.2.2] 39))
          have HBR := Lib.hid (hbr.alloc hbr.size (.cells #[.int .u32 v.1, .int .u32 v.2.1, .int .u32 v.2.2] 39))
          have hgl := hG.lt
          clear hv hown hou hR hG hbr hqe
          obtain ⟨ce, hce⟩ : ∃ ce, makeTo Prod.fst es q = ce := ⟨_, rfl⟩
          obtain ⟨p, hp⟩ : ∃ p, mkN Prod.fst es q = p := ⟨_, rfl⟩
          rw [hce] at HV HO
          rw [hp] at HO HG hmk g1
          go_wp2_with fail
          refine (rfinde_any _ _ _ _ ce _ v.1 _ HO.out.rd (Nat.le_refl _)).mono ?_
          rintro e wi ⟨rfl, B1⟩
          have hd0 : decide (0 ≤ edx ce v.1) = decide (Prod.fst v ∈ ce.map Prod.fst) := by
            have := idx_neg (ce.map (·.1)) v.1
            unfold edx
            by_cases hm : v.1 ∈ ce.map (·.1)
            · have h1 : ¬ idx (ce.map (·.1)) v.1 < 0 := by rw [this]; exact fun h => h hm
              have h2 : 0 ≤ idx (ce.map (·.1)) v.1 := by omega
              rw [decide_eq_true hm, decide_eq_true h2]
            · have h1 : idx (ce.map (·.1)) v.1 < 0 := by rw [this]; exact hm
              have h2 : ¬ 0 ≤ idx (ce.map (·.1)) v.1 := by omega
              rw [decide_eq_false hm, decide_eq_false h2]
          have hO1 := HO.out.below B1 HO.out.lt
          have hOU1 := HOU.out.below B1 HOU.out.lt
          have hR1 := HR.out.below B1 HR.out.lt
          have hG1 := HG.out.below B1 HG.out.lt
          have hX1 := HX.out.below B1 HX.out.lt
          have HBo := Lib.hid (HBR.out.trans (B1.mono HBR.out.size))
          have HOo := Lib.hid hO1
          have HOUo := Lib.hid hOU1
          have HRo := Lib.hid hR1
          have HGo := Lib.hid hG1
          have HXo := Lib.hid hX1
          obtain ⟨o0, o1⟩ := hG1.c2
          have hol := hG1.lt
          have hxl := hX1.lt
          have hzi := B1.size
          simp only [World.size_alloc] at hzi
          have HI0 : Hid (insTo Prod.fst ce v 0 = ([], decide (Prod.fst v ∈ ce.map Prod.fst))) := insTo_zero Prod.fst ce v
          clear B1 hO1 hOU1 hR1 hG1 hX1 HO HOU HR HG HBR HX g0 g1
          obtain ⟨dn0, hdn0⟩ : ∃ dn0, decide (Prod.fst v ∈ ce.map Prod.fst) = dn0 := ⟨_, rfl⟩
          rw [hdn0] at HI0 hd0
          clear hdn0
          go_wp2_with fail
          go_loopw [14, 15, 17, 73] (fun s14 s15 _ i wr => ∃ (j : Nat) (R2 : Option Nat) (A3 : Option Addr) (c3 : Nat) (nx : List Edg) (dn : Bool), j ≤ p ∧ i = .int .i64 j ∧ s14 = .slice A3 nx.length c3 ∧ s15 = .bool dn ∧ Hid (insTo Prod.fst ce v j = (nx, dn)) ∧ OwnE wr R2 A3 nx.length c3 nx ∧ (∀ g, R2 = some g → wi.heap.size ≤ g) ∧ Below wi.heap.size wi wr) (fun _ _ _ i _ => p - (intOf i).toNat)
          case atStart => exact ⟨0, none, none, 0, [], dn0, by omega, rfl, rfl, by simp [hd0], HI0, OwnE.nil_ _ _, by simp, Below.refl _ _⟩
          case round =>
            clear HI0 hd0
            obtain ⟨j, R2, A3, c3, nx, dn, hj, rfl, rfl, rfl, HI, hO2, hR2, hB2⟩ := hrel
            have hnl : nx.length ≤ j + 1 := by have := insTo_len Prod.fst ce v j; rw [HI.out] at this; simp only at this; split at this <;> omega
            have hXw := HXo.out.below hB2 HXo.out.lt
            by_cases hlt2 : j < p
            · have hq2 := HOo.out.rd.below hB2
              obtain ⟨ad2, x, rfl, hbl2, hx, hxb, hd1, hd2, hd3⟩ := hq2.at_ hlt2
              have HR2l := Lib.hid hO2.lt
              have HS : Hid (insTo Prod.fst ce v (j + 1) = stepK Prod.fst v (nx, dn) x) := by show _ = _; rw [insTo_succ hx, HI.out]
              have HB2 := Lib.hid (hB2.alloc hB2.size (.cells #[.int .u32 x.1, .int .u32 x.2.1, .int .u32 x.2.2] 39))
              have HO2 := Lib.hid (hO2.alloc (.cells #[.int .u32 x.1, .int .u32 x.2.1, .int .u32 x.2.2] 39))
              have HXv := Lib.hid (hXw.alloc (.cells #[.int .u32 x.1, .int .u32 x.2.1, .int .u32 x.2.2] 39))
              have HXx := Lib.hid (Blk.new wr 39 #[.int .u32 x.1, .int .u32 x.2.1, .int .u32 x.2.2])
              obtain ⟨z0, z1, z2⟩ := hXw.c3
              have hxl2 := hXw.lt
              clear hx hB2 hq2 hO2 hXw
              cases dn
              · by_cases hvx : v.1 < x.1
                · have HVX := Lib.hid hvx
                  go_wp2_with (first
                    | (at_builtin; refine appE1 rfl (.tmp 86) (.tmp 88) rfl _ R2 _ _ c3 nx rfl (HO2.out.alloc _) (wr.heap.size + 1) v rfl (by have := Blk.new (wr.alloc (.cells #[.int .u32 x.1, .int .u32 x.2.1, .int .u32 x.2.2] 39)) 39 #[.int .u32 v.1, .int .u32 v.2.1, .int .u32 v.2.2]; simp only [World.size_alloc] at this; exact this) hvb (by omega) ?_; intro r3 A4 c4 w3 m1 m2 m3; have hXv3 := (HXv.out.alloc (.cells #[.int .u32 v.1, .int .u32 v.2.1, .int .u32 v.2.2] 39)).grown m2 (fun e => by have := hR2 _ e.symm; omega); have hXx3 := (HXx.out.alloc (.cells #[.int .u32 v.1, .int .u32 v.2.1, .int .u32 v.2.2] 39)).grown m2 (fun e => by have := HR2l.out _ e.symm; omega); obtain ⟨x0, x1, x2⟩ := hXx3.c3; have hx3l := hXx3.lt)
                    | (at_builtin; refine appE1 rfl (.tmp 90) (.tmp 92) rfl _ r3 _ _ c4 (nx ++ [v]) rfl (m1.alloc _) w3.heap.size x rfl (Blk.new _ _ _) hxb (by omega) ?_; intro r4 A5 c5 w4 q1 q2 q3))
                  go_roundw
                  case rel =>
                    have hs3 := m2.size
                    have y0 := HB2.out.size
                    simp only [World.size_alloc] at hs3 y0
                    have hr3 := since_of (B := wi.heap.size) (w := (wr.alloc (.cells #[.int .u32 x.1, .int .u32 x.2.1, .int .u32 x.2.2] 39)).alloc (.cells #[.int .u32 v.1, .int .u32 v.2.1, .int .u32 v.2.2] 39)) (w' := w3) (by simp; omega) hR2 m3
                    have hr4 := since_of (B := wi.heap.size) (w := w3.alloc (.cells #[.int .u32 x.1, .int .u32 x.2.1, .int .u32 x.2.2] 39)) (w' := w4) (by simp; omega) hr3 q3
                    have hB3 := (HB2.out.alloc HB2.out.size (.cells #[.int .u32 v.1, .int .u32 v.2.1, .int .u32 v.2.2] 39)).grown m2 (by simp; omega) hR2
                    have hB4 := (hB3.alloc hB3.size (.cells #[.int .u32 x.1, .int .u32 x.2.1, .int .u32 x.2.2] 39)).grown q2 (by have := hB3.size; simp; omega) hr3
                    have hnx : (nx ++ [v] ++ [x]).length = nx.length + 1 + 1 := by simp
                    exact ⟨j + 1, r4, A5, c5, nx ++ [v] ++ [x], true, by omega, by go_num, by rw [hnx], rfl, by show _ = _; rw [HS.out, stepK_y (key := Prod.fst) HVX.out]; simp, by rw [hnx]; exact q1, hr4, hB4⟩
                  case measure => simp [intOf]; omega
                · have hvx' : decide (v.1 < x.1) = false := by simpa using hvx
                  have HVX := Lib.hid hvx
                  clear hvx
                  go_wp2_with (first
                    | (at_builtin; refine appE1 rfl (.tmp 90) (.tmp 92) rfl _ R2 _ _ c3 nx rfl (HO2.out.alloc _) (wr.heap.size + 1) x rfl (by have := Blk.new (wr.alloc (.cells #[.int .u32 x.1, .int .u32 x.2.1, .int .u32 x.2.2] 39)) 39 #[.int .u32 x.1, .int .u32 x.2.1, .int .u32 x.2.2]; simp only [World.size_alloc] at this; exact this) hxb (by omega) ?_; intro r3 A4 c4 w3 m1 m2 m3))
                  go_roundw
                  case rel =>
                    have y0 := HB2.out.size
                    simp only [World.size_alloc] at y0
                    have hr3 := since_of (B := wi.heap.size) (w := (wr.alloc (.cells #[.int .u32 x.1, .int .u32 x.2.1, .int .u32 x.2.2] 39)).alloc (.cells #[.int .u32 x.1, .int .u32 x.2.1, .int .u32 x.2.2] 39)) (w' := w3) (by simp; omega) hR2 m3
                    have hB3 := (HB2.out.alloc HB2.out.size (.cells #[.int .u32 x.1, .int .u32 x.2.1, .int .u32 x.2.2] 39)).grown m2 (by simp; omega) hR2
                    have hnx : (nx ++ [x]).length = nx.length + 1 := by simp
                    exact ⟨j + 1, r3, A4, c4, nx ++ [x], false, by omega, by go_num, by rw [hnx], rfl, by show _ = _; rw [HS.out, stepK_n (key := Prod.fst) HVX.out], by rw [hnx]; exact m1, hr3, hB3⟩
                  case measure => simp [intOf]; omega
              · go_wp2_with (first
                  | (at_builtin; refine appE1 rfl (.tmp 90) (.tmp 92) rfl _ R2 _ _ c3 nx rfl (HO2.out.alloc _) (wr.heap.size + 1) x rfl (by have := Blk.new (wr.alloc (.cells #[.int .u32 x.1, .int .u32 x.2.1, .int .u32 x.2.2] 39)) 39 #[.int .u32 x.1, .int .u32 x.2.1, .int .u32 x.2.2]; simp only [World.size_alloc] at this; exact this) hxb (by omega) ?_; intro r3 A4 c4 w3 m1 m2 m3))
                go_roundw
                case rel =>
                  have y0 := HB2.out.size
                  simp only [World.size_alloc] at y0
                  have hr3 := since_of (B := wi.heap.size) (w := (wr.alloc (.cells #[.int .u32 x.1, .int .u32 x.2.1, .int .u32 x.2.2] 39)).alloc (.cells #[.int .u32 x.1, .int .u32 x.2.1, .int .u32 x.2.2] 39)) (w' := w3) (by simp; omega) hR2 m3
                  have hB3 := (HB2.out.alloc HB2.out.size (.cells #[.int .u32 x.1, .int .u32 x.2.1, .int .u32 x.2.2] 39)).grown m2 (by simp; omega) hR2
                  have hnx : (nx ++ [x]).length = nx.length + 1 := by simp
                  exact ⟨j + 1, r3, A4, c4, nx ++ [x], true, by omega, by go_num, by rw [hnx], rfl, by show _ = _; rw [HS.out, stepK_d], by rw [hnx]; exact m1, hr3, hB3⟩
                case measure => simp [intOf]; omega
            · obtain rfl : j = p := by omega
              have HF : Hid (finK v (nx, dn) = putK Prod.fst ce v) := by
                show _ = _; rw [← HI.out]; exact insTo_all HOo.out.len
              have hBo := HBo.out.trans (hB2.mono HBo.out.size)
              have hRn := HRo.out.below hB2 HRo.out.lt
              have hGn := HGo.out.below hB2 HGo.out.lt
              have hUn := HOUo.out.below hB2 HOUo.out.lt
              have HRn := Lib.hid hRn
              have HGn := Lib.hid hGn
              have HBn := Lib.hid hBo
              have HUn := Lib.hid hUn
              have HO2 := Lib.hid hO2
              have hzw := hB2.size
              have hgl := hGn.lt
              have hxl2 := hXw.lt
              obtain ⟨g0, g1⟩ := hGn.c2
              obtain ⟨z0, z1, z2⟩ := hXw.c3
              have f1 := hGn.frozen 1
              clear hBo hRn hGn hB2 hUn hO2 HRo HGo HOo HBo HOUo o0 o1
              cases dn
              · go_wp2_with (first
                  | (at_builtin; refine appE1 rfl (.tmp 97) (.tmp 99) rfl _ R2 _ _ c3 nx rfl (HO2.out.alloc _) wr.heap.size v rfl (Blk.new _ _ _) hvb (by omega) ?_; intro r3 A4 c4 w3 m1 m2 m3; have hG3 := (HGn.out.alloc (.cells #[.int .u32 v.1, .int .u32 v.2.1, .int .u32 v.2.2] 39)).grown m2 (fun e => by have := hR2 _ e.symm; omega); have hgl3 := hG3.lt; obtain ⟨k0, k1⟩ := hG3.c2; have kf1 := hG3.frozen 1))
                go_roundw
                case rel =>
                  have hmk1 : mkN Prod.fst es (q + 1) = nx.length + 1 := by unfold mkN; rw [HV.out, ← HF.out]; simp [finK]
                  have hmk2 : makeTo Prod.fst es (q + 1) = nx ++ [v] := by rw [HV.out, ← HF.out]; rfl
                  have hR3 := (HRn.out.alloc (.cells #[.int .u32 v.1, .int .u32 v.2.1, .int .u32 v.2.2] 39)).grown m2 (fun e => by have := hR2 _ e.symm; omega)
                  have hr3 := since_of (B := wi.heap.size) (w := wr.alloc (.cells #[.int .u32 v.1, .int .u32 v.2.1, .int .u32 v.2.2] 39)) (w' := w3) (by simp; omega) hR2 m3
                  have hB3 := (HBn.out.alloc HBn.out.size (.cells #[.int .u32 v.1, .int .u32 v.2.1, .int .u32 v.2.2] 39)).grown m2 (by have := HBn.out.size; simp; omega) (fun g e => by have := hR2 g e; omega)
                  have hU3 := (HUn.out.alloc (.cells #[.int .u32 v.1, .int .u32 v.2.1, .int .u32 v.2.2] 39)).kept m2 (by
                    cases hr1' : r1 with
                    | none => exact .inl rfl
                    | some g => right; intro e; have a := HOL.out g hr1'; have b := hR2 g e.symm; omega)
                  exact ⟨q + 1, r3, A4, c4, by omega, by go_num, by rw [hmk1, hmk2]; exact m1.setCell_far (fun g e => by have := hr3 g e; simp; omega) _, fun g e => by have := hr3 g e; omega, hU3.setCell_far (fun g e => by have := hr1 g e; simp; omega) _, hB3.setCell (by simp) _, by have := m2.size; simp at this ⊢; omega, hR3.far (by simp) _, by rw [hmk1]; simpa using hG3.set_ 1 _⟩
                case measure => simp [intOf]; omega
              · go_wp2_with fail
                go_roundw
                case rel =>
                  have hmk1 : mkN Prod.fst es (q + 1) = nx.length := by unfold mkN; rw [HV.out, ← HF.out]; simp [finK]
                  have hmk2 : makeTo Prod.fst es (q + 1) = nx := by rw [HV.out, ← HF.out]; rfl
                  exact ⟨q + 1, R2, A3, c3, by omega, by go_num, by rw [hmk1, hmk2]; exact HO2.out.setCell_far (fun g e => by have := hR2 g e; simp; omega) _, fun g e => by have := hR2 g e; omega, HUn.out.setCell_far (fun g e => by have := hr1 g e; simp; omega) _, HBn.out.setCell (by simp) _, by simp; omega, HRn.out.far (by simp) _, by rw [hmk1]; simpa using HGn.out.set_ 1 _⟩
                case measure => simp [intOf]; omega
        · obtain rfl : q = n' := by omega
          obtain ⟨g0, g1⟩ := hG.c2
          obtain ⟨r0, r1'⟩ := hR.c2
          have f0 := hR.frozen 0
          have f1 := hR.frozen 1
          have hrl := hR.lt
          have hgl := hG.lt
          have HO := Lib.hid hown
          have HU := Lib.hid hou
          have HBR := Lib.hid hbr
          clear hown hou hbr
          go_wp2_with fail
          refine bodyPost_ret (v := .agg #[.slice A1 m c1, .slice A2 (mkN Prod.fst es q) c2]) (by simp [results, Try.results72, go_sem, r0, r1']) rfl ?_
          refine ⟨r1, A1, c1, r2, A2, c2, by rw [hm], ?_, ?_, ?_, fun g e => by have := hr1 g e; omega, fun g e => by have := hr2 g e; omega⟩
          · rw [hm, hcur]
            exact (HU.out.setCell_far (p := ⟨w.heap.size, 0, none⟩) (fun g e => by have := hr1 g e; simp; omega) _).setCell_far (p := ⟨w.heap.size, 1, none⟩) (fun g e => by have := hr1 g e; simp; omega) _
          · exact (HO.out.setCell_far (p := ⟨w.heap.size, 0, none⟩) (fun g e => by have := hr2 g e; simp; omega) _).setCell_far (p := ⟨w.heap.size, 1, none⟩) (fun g e => by have := hr2 g e; simp; omega) _
          · exact (HBR.out.setCell (p := ⟨w.heap.size, 0, none⟩) (Nat.le_refl _) _).setCell (p := ⟨w.heap.size, 1, none⟩) (Nat.le_refl _) _
end Go.Proofs.Ytklmckbpbloonaa
