/- Parts of the proof: UnM, UnE6, UnT, UnS, LawUO, Opens, OpensB. -/
import Derived.Test.YtklmckbpbloonaaUO8
import Derived.Test.YtklmckbpbloonaaUO1
import Derived.Test.YtklmckbpbloonaaUO2
import Derived.Test.YtklmckbpbloonaaUO6
import Derived.Deep.QuietTactic
import Derived.BigQuiet
import Derived.Test.YtklmckbpbloonaaUO5
import Derived.ProofKit
import Derived.Deep.Slices
import Derived.Deep.Strs
import Derived.Lib.SmallJoins
namespace Go.Proofs.Ytklmckbpbloonaa
open Go.RowKit

theorem stepK_len {α : Type} (key : α → Int) (v : α) (s : List α × Bool) (x : α) : (stepK key v s x).1.length ≤ s.1.length + 1 + (if s.2 = true then 0 else if (stepK key v s x).2 = true then 1 else 0) := by
  obtain ⟨l, d⟩ := s
  unfold stepK
  cases d
  · by_cases h : key v < key x
    · simp [h]
    · simp [h]
  · simp
theorem insTo_len {α : Type} (key : α → Int) (l : List α) (v : α) : ∀ k, (insTo key l v k).1.length ≤ k + (if (insTo key l v k).2 = true then 1 else 0)
  | 0 => by rw [insTo_zero]; simp
  | k + 1 => by
    have ih := insTo_len key l v k
    cases h : l[k]? with
    | none =>
      have e : insTo key l v (k + 1) = insTo key l v k := by
        unfold insTo; rw [List.take_add_one, h]; simp
      rw [e]; omega
    | some x =>
      rw [insTo_succ h]
      have := stepK_len key v (insTo key l v k) x
      generalize insTo key l v k = s at ih this ⊢
      obtain ⟨t, d⟩ := s
      cases d
      · simp only [Bool.false_eq_true, if_false] at ih this ⊢
        split at this <;> simp_all <;> omega
      · have e2 : (stepK key v (t, true) x).2 = true := by simp [stepK]
        simp only [if_true] at ih this
        rw [e2]; simp; omega
def mkN {α : Type} (key : α → Int) (vs : List α) (k : Nat) : Nat := (makeTo key vs k).length
theorem mkN_le {α : Type} (key : α → Int) (vs : List α) (k : Nat) : mkN key vs k ≤ k := makeTo_len key vs k
theorem hasB_id (l : List Int) (v : Int) : decide (id v ∈ l.map id) = hasB l v := by rw [List.map_id]; rfl
theorem insTo_id0 (l : List Int) (v : Int) : insTo id l v 0 = ([], hasB l v) := by rw [insTo_zero, hasB_id]
theorem stepK_d {α : Type} (key : α → Int) (v : α) (nx : List α) (x : α) : stepK key v (nx, true) x = (nx ++ [x], true) := by simp [stepK]
theorem stepK_y {α : Type} {key : α → Int} {v : α} {nx : List α} {x : α} (h : key v < key x) : stepK key v (nx, false) x = (nx ++ [v, x], true) := by simp [stepK, h]
theorem stepK_n {α : Type} {key : α → Int} {v : α} {nx : List α} {x : α} (h : ¬ key v < key x) : stepK key v (nx, false) x = (nx ++ [x], false) := by simp [stepK, h]
/-- Blocks of a call's own since then. -/
theorem since_of {w w' : World} {B : Nat} {r r' : Option Nat} (hB : B ≤ w.heap.size) (hr : ∀ g, r = some g → B ≤ g) (h : r' = r ∨ ∀ g, r' = some g → w.heap.size ≤ g) : ∀ g, r' = some g → B ≤ g := fun g e => by
  rcases h with h | h
  · exact hr g (by rw [← h, e])
  · have := h g e; omega
set_option maxRecDepth 100000 in
set_option maxHeartbeats 4000000 in
theorem rmake_any (B : Nat) (A A' : Option Addr) (n c n' c' : Nat) (vs : List Int) (es : List Edg) (w : World) (h : RdU w B A n c vs) (h' : RdE w B A' n' c' es) (hn : n ≤ 1000000) (hn' : n' ≤ 1000000) (hB : B ≤ w.heap.size) :
    Calls Try.prog 72 #[.slice A n c, .slice A' n' c'] w fun e w' => ∃ r1 A1 c1 r2 A2 c2, e = .returned (.agg #[.slice A1 (mkN id vs n) c1, .slice A2 (mkN Prod.fst es n') c2]) ∧
      OwnU w' r1 A1 (mkN id vs n) c1 (makeTo id vs n) ∧ OwnE w' r2 A2 (mkN Prod.fst es n') c2 (makeTo Prod.fst es n') ∧ Below w.heap.size w w' ∧ (∀ g, r1 = some g → w.heap.size ≤ g) ∧ (∀ g, r2 = some g → w.heap.size ≤ g) := by
  obtain ⟨hnc, hcc⟩ := h.bd
  obtain ⟨hnc', hcc'⟩ := h'.bd
  have HB0 := Lib.hid (((Below.refl w.heap.size w).alloc (Nat.le_refl _) (.cells #[.slice none 0 0, .slice none 0 0] 25)).alloc (by simp) (.cells #[.slice none 0 0, .slice none 0 0] 25))
  have HR0 := Lib.hid ((Blk.new w 25 #[.slice none 0 0, .slice none 0 0]).alloc (.cells #[.slice none 0 0, .slice none 0 0] 25))
  have hG0 := Blk.new (w.alloc (.cells #[.slice none 0 0, .slice none 0 0] 25)) 25 #[.slice none 0 0, .slice none 0 0]
  simp only [World.size_alloc] at hG0
  have HG0 := Lib.hid hG0
  clear hG0
  go_enter Try.func72, Try.ntmps72
  go_wp2_with fail
  go_loopw [20] (fun i wr => ∃ (k : Nat) (r1 : Option Nat) (A1 : Option Addr) (c1 : Nat), k ≤ n ∧ i = .int .i64 k ∧ OwnU wr r1 A1 (mkN id vs k) c1 (makeTo id vs k) ∧ (∀ g, r1 = some g → w.heap.size + 2 ≤ g) ∧ Below w.heap.size w wr ∧
      Blk wr w.heap.size 25 #[.slice none 0 0, .slice none 0 0] ∧ Blk wr (w.heap.size + 1) 25 #[.slice A1 (mkN id vs k) c1, .slice none 0 0]) (fun i _ => n - (intOf i).toNat)
  case atStart => exact ⟨0, none, none, 0, by omega, rfl, by simpa [mkN, makeTo] using OwnU.nil_ _ _, by simp, HB0.out, HR0.out, by simpa [mkN, makeTo] using HG0.out⟩
  case round =>
    clear HB0 HR0 HG0
    obtain ⟨k, r1, A1, c1, hk, rfl, hown, hr1, hbr, hR, hG⟩ := hrel
    have hmk := mkN_le id vs k
    by_cases hlt : k < n
    · have hq := h.below (hbr.mono hB)
      obtain ⟨ad, v, rfl, hbl, hv, hvb, hc1⟩ := hq.at_ hlt
      obtain ⟨g0, g1⟩ := hG.c2
      have HV : Hid (makeTo id vs (k + 1) = putK id (makeTo id vs k) v) := makeTo_succ hv
      have HO := Lib.hid hown
      have HR := Lib.hid hR
      have HG := Lib.hid hG
      have HBR := Lib.hid hbr
      have hgl := hG.lt
      clear hv hown hR hbr hq
      obtain ⟨cur, hcur⟩ : ∃ cur, makeTo id vs k = cur := ⟨_, rfl⟩
      obtain ⟨m, hm⟩ : ∃ m, mkN id vs k = m := ⟨_, rfl⟩
      rw [hcur] at HV HO
      rw [hm] at HO HG hmk g0
      clear hG
      go_wp2_with fail
      refine (has_any _ _ _ _ cur _ v _ HO.out.rd (Nat.le_refl _)).mono ?_
      rintro e wo ⟨rfl, B1⟩
      have hO1 := HO.out.below B1 HO.out.lt
      have hR1 := HR.out.below B1 HR.out.lt
      have hG1 := HG.out.below B1 HG.out.lt
      have HBo := Lib.hid (HBR.out.trans (B1.mono HBR.out.size))
      have HOo := Lib.hid hO1
      have HRo := Lib.hid hR1
      have HGo := Lib.hid hG1
      obtain ⟨o0, o1⟩ := hG1.c2
      have hol := hG1.lt
      have HI0 : Hid (insTo id cur v 0 = ([], hasB cur v)) := insTo_id0 cur v
      clear B1 hO1 hR1 hG1 HO HR HG HBR g0 g1
      go_wp2_with fail
      go_loopw [8, 9, 30] (fun s8 s9 i wr => ∃ (j : Nat) (R2 : Option Nat) (A2 : Option Addr) (c2 : Nat) (nx : List Int) (dn : Bool), j ≤ m ∧ i = .int .i64 j ∧ s8 = .slice A2 nx.length c2 ∧ s9 = .bool dn ∧ Hid (insTo id cur v j = (nx, dn)) ∧ OwnU wr R2 A2 nx.length c2 nx ∧ (∀ g, R2 = some g → wo.heap.size ≤ g) ∧ Below wo.heap.size wo wr) (fun _ _ i _ => m - (intOf i).toNat)
      case atStart => exact ⟨0, none, none, 0, [], hasB cur v, by omega, rfl, rfl, rfl, HI0, OwnU.nil_ _ _, by simp, Below.refl _ _⟩
      case round =>
        clear HI0
        obtain ⟨j, R2, A2, c2, nx, dn, hj, rfl, rfl, rfl, HI, hO2, hR2, hB2⟩ := hrel
        have hnl : nx.length ≤ j + 1 := by have := insTo_len id cur v j; rw [HI.out] at this; simp only at this; split at this <;> omega
        have HO2 := Lib.hid hO2
        have HB2 := Lib.hid hB2
        clear hO2
        by_cases hlt2 : j < m
        · have hq2 := HOo.out.rd.below hB2
          obtain ⟨ad2, x, rfl, hbl2, hx, hxb, hc2⟩ := hq2.at_ hlt2
          have HS : Hid (insTo id cur v (j + 1) = stepK id v (nx, dn) x) := by show _ = _; rw [insTo_succ hx, HI.out]
          clear hx hB2 hq2
          cases dn
          · by_cases hvx : v < x
            · have HVX := Lib.hid hvx
              go_wp2_with (first
                | (at_builtin; refine appU1 rfl (.tmp 41) (.tmp 43) rfl _ R2 _ _ c2 nx rfl (HO2.out.alloc _) wr.heap.size v rfl (Blk.new _ _ _) hvb (by omega) ?_; intro r3 A3 c3 w3 m1 m2 m3)
                | (at_builtin; refine appU1 rfl (.tmp 45) (.tmp 47) rfl _ r3 _ _ c3 (nx ++ [v]) rfl (m1.alloc _) w3.heap.size x rfl (Blk.new _ _ _) hxb (by omega) ?_; intro r4 A4 c4 w4 q1 q2 q3))
              go_roundw
              case rel =>
                have hs3 := m2.size
                have z0 := HB2.out.size
                simp only [World.size_alloc] at hs3
                have hr3 := since_of (B := wo.heap.size) (w := wr.alloc (.cells #[.int .u32 v] 31)) (w' := w3) (by simp; omega) hR2 m3
                have hr4 := since_of (B := wo.heap.size) (w := w3.alloc (.cells #[.int .u32 x] 31)) (w' := w4) (by simp; omega) hr3 q3
                have hB3 := (HB2.out.alloc HB2.out.size (.cells #[.int .u32 v] 31)).grown m2 (by simp; omega) hR2
                have hB4 := (hB3.alloc hB3.size (.cells #[.int .u32 x] 31)).grown q2 (by have := hB3.size; simp; omega) hr3
                have hnx : (nx ++ [v] ++ [x]).length = nx.length + 1 + 1 := by simp
                exact ⟨j + 1, r4, A4, c4, nx ++ [v] ++ [x], true, by omega, by go_num, by rw [hnx], rfl, by show _ = _; rw [HS.out, stepK_y (key := id) HVX.out]; simp, by rw [hnx]; exact q1, hr4, hB4⟩
              case measure => simp [intOf]; omega
            · have hvx' : decide (v < x) = false := by simpa using hvx
              have HVX := Lib.hid hvx
              clear hvx
              go_wp2_with (first
                | (at_builtin; refine appU1 rfl (.tmp 45) (.tmp 47) rfl _ R2 _ _ c2 nx rfl (HO2.out.alloc _) wr.heap.size x rfl (Blk.new _ _ _) hxb (by omega) ?_; intro r3 A3 c3 w3 m1 m2 m3))
              go_roundw
              case rel =>
                have z0 := HB2.out.size
                have hr3 := since_of (B := wo.heap.size) (w := wr.alloc (.cells #[.int .u32 x] 31)) (w' := w3) (by simp; omega) hR2 m3
                have hB3 := (HB2.out.alloc HB2.out.size (.cells #[.int .u32 x] 31)).grown m2 (by simp; omega) hR2
                have hnx : (nx ++ [x]).length = nx.length + 1 := by simp
                exact ⟨j + 1, r3, A3, c3, nx ++ [x], false, by omega, by go_num, by rw [hnx], rfl, by show _ = _; rw [HS.out, stepK_n (key := id) HVX.out], by rw [hnx]; exact m1, hr3, hB3⟩
              case measure => simp [intOf]; omega
          · go_wp2_with (first
              | (at_builtin; refine appU1 rfl (.tmp 45) (.tmp 47) rfl _ R2 _ _ c2 nx rfl (HO2.out.alloc _) wr.heap.size x rfl (Blk.new _ _ _) hxb (by omega) ?_; intro r3 A3 c3 w3 m1 m2 m3))
            go_roundw
            case rel =>
              have z0 := HB2.out.size
              have hr3 := since_of (B := wo.heap.size) (w := wr.alloc (.cells #[.int .u32 x] 31)) (w' := w3) (by simp; omega) hR2 m3
              have hB3 := (HB2.out.alloc HB2.out.size (.cells #[.int .u32 x] 31)).grown m2 (by simp; omega) hR2
              have hnx : (nx ++ [x]).length = nx.length + 1 := by simp
              exact ⟨j + 1, r3, A3, c3, nx ++ [x], true, by omega, by go_num, by rw [hnx], rfl, by show _ = _; rw [HS.out, stepK_d], by rw [hnx]; exact m1, hr3, hB3⟩
            case measure => simp [intOf]; omega
        · obtain rfl : j = m := by omega
          have HF : Hid (finK v (nx, dn) = putK id cur v) := by
            show _ = _; rw [← HI.out]; exact insTo_all HOo.out.len
          have hBo := HBo.out.trans (HB2.out.mono HBo.out.size)
          have hRn := HRo.out.below HB2.out HRo.out.lt
          have hGn := HGo.out.below HB2.out HGo.out.lt
          have HRn := Lib.hid hRn
          have HGn := Lib.hid hGn
          have HBn := Lib.hid hBo
          have hgl := hGn.lt
          obtain ⟨g0, g1⟩ := hGn.c2
          have f0 := hGn.frozen 0
          clear hBo hRn hGn hB2 HRo HGo HOo HBo o0 o1
          cases dn
          · go_wp2_with (first
              | (at_builtin; refine appU1 rfl (.tmp 52) (.tmp 54) rfl _ R2 _ _ c2 nx rfl (HO2.out.alloc _) wr.heap.size v rfl (Blk.new _ _ _) hvb (by omega) ?_; intro r3 A3 c3 w3 m1 m2 m3; have hG3 := (HGn.out.alloc (.cells #[.int .u32 v] 31)).grown m2 (fun e => by have := hR2 _ e.symm; omega); have hgl3 := hG3.lt; obtain ⟨k0, k1⟩ := hG3.c2; have kf0 := hG3.frozen 0))
            go_roundw
            case rel =>
              have hmk1 : mkN id vs (k + 1) = nx.length + 1 := by unfold mkN; rw [HV.out, ← HF.out]; simp [finK]
              have hmk2 : makeTo id vs (k + 1) = nx ++ [v] := by rw [HV.out, ← HF.out]; rfl
              have hR3 := (HRn.out.alloc (.cells #[.int .u32 v] 31)).grown m2 (fun e => by have := hR2 _ e.symm; omega)
              have hr3 := since_of (B := wo.heap.size) (w := wr.alloc (.cells #[.int .u32 v] 31)) (w' := w3) (by have := HB2.out.size; simp; omega) hR2 m3
              have hB3 := (HBn.out.alloc HBn.out.size (.cells #[.int .u32 v] 31)).grown m2 (by have := HBn.out.size; simp; omega) (fun g e => by have := hR2 g e; omega)
              exact ⟨k + 1, r3, A3, c3, by omega, by go_num, by rw [hmk1, hmk2]; exact m1.setCell_far (fun g e => by have := hr3 g e; simp; omega) _, fun g e => by have := hr3 g e; omega, hB3.setCell (by simp) _, hR3.far (by simp) _, by rw [hmk1]; simpa using hG3.set_ 0 _⟩
            case measure => simp [intOf]; omega
          · go_wp2_with fail
            go_roundw
            case rel =>
              have hmk1 : mkN id vs (k + 1) = nx.length := by unfold mkN; rw [HV.out, ← HF.out]; simp [finK]
              have hmk2 : makeTo id vs (k + 1) = nx := by rw [HV.out, ← HF.out]; rfl
              exact ⟨k + 1, R2, A2, c2, by omega, by go_num, by rw [hmk1, hmk2]; exact HO2.out.setCell_far (fun g e => by have := hR2 g e; simp; omega) _, fun g e => by have := hR2 g e; omega, HBn.out.setCell (by simp) _, HRn.out.far (by simp) _, by rw [hmk1]; simpa using HGn.out.set_ 0 _⟩
            case measure => simp [intOf]; omega
    · obtain rfl : k = n := by omega
      obtain ⟨wo, rfl⟩ : ∃ wo : World, wo = wr := ⟨_, rfl⟩
      obtain ⟨g0, g1⟩ := hG.c2
      obtain ⟨cur, hcur⟩ : ∃ cur, makeTo id vs k = cur := ⟨_, rfl⟩
      obtain ⟨m, hm⟩ : ∃ m, mkN id vs k = m := ⟨_, rfl⟩
      rw [hcur, hm] at hown
      rw [hm] at hG g0
      have hgl := hG.lt
      have HO := Lib.hid hown
      have HR := Lib.hid hR
      have HG := Lib.hid hG
      have HBR := Lib.hid hbr
      have hb0 := hbr.size
      clear hown hR hG hbr
      go_wp2_with fail
      go_loopw [13, 17, 61] (fun _ _ i wr => ∃ (q : Nat) (r2 : Option Nat) (A2 : Option Addr) (c2 : Nat), q ≤ n' ∧ i = .int .i64 q ∧ OwnE wr r2 A2 (mkN Prod.fst es q) c2 (makeTo Prod.fst es q) ∧ (∀ g, r2 = some g → wo.heap.size ≤ g) ∧ OwnU wr r1 A1 m c1 cur ∧ Below w.heap.size w wr ∧ wo.heap.size ≤ wr.heap.size ∧
          Blk wr w.heap.size 25 #[.slice none 0 0, .slice none 0 0] ∧ Blk wr (w.heap.size + 1) 25 #[.slice A1 m c1, .slice A2 (mkN Prod.fst es q) c2]) (fun _ _ i _ => n' - (intOf i).toNat)
      case atStart => exact ⟨0, none, none, 0, by omega, rfl, by simpa [mkN, makeTo] using OwnE.nil_ _ _, by simp, HO.out, HBR.out, Nat.le_refl _, HR.out, by simpa [mkN, makeTo] using HG.out⟩
      case round =>
        have HOL := Lib.hid HO.out.lt
        clear HO HR HG HBR g0 g1
        obtain ⟨q, r2, A2, c2, hq, rfl, hown, hr2, hou, hbr, hsz, hR, hG⟩ := hrel
        have hmk := mkN_le Prod.fst es q
        by_cases hlt : q < n'
        · have hqe := h'.below (hbr.mono hB)
          obtain ⟨ad, v, rfl, hbl, hv, hvb, hc1, hc2, hc3⟩ := hqe.at_ hlt
          obtain ⟨g0, g1⟩ := hG.c2
          have HV : Hid (makeTo Prod.fst es (q + 1) = putK Prod.fst (makeTo Prod.fst es q) v) := makeTo_succ hv
          have HX := Lib.hid (Blk.new wr 39 #[.int .u32 v.1, .int .u32 v.2.1, .int .u32 v.2.2])
          have HO := Lib.hid (hown.alloc (.cells #[.int .u32 v.1, .int .u32 v.2.1, .int .u32 v.2.2] 39))
          have HOU := Lib.hid (hou.alloc (.cells #[.int .u32 v.1, .int .u32 v.2.1, .int .u32 v.2.2] 39))
          have HR := Lib.hid (hR.alloc (.cells #[.int .u32 v.1, .int .u32 v.2.1, .int .u32 v.2.2] 39))
          have HG := Lib.hid (hG.alloc (.cells #[.int .u32 v.1, .int .u32 v.2.1, .int .u32 v.2.2] 39))
          have HBR := Lib.hid (hbr.alloc hbr.size (.cells #[.int .u32 v.1, .int .u32 v.2.1, .int .u32 v.2.2] 39))
          have hgl := hG.lt
          clear hv hown hou hR hG hbr hqe
          obtain ⟨ce, hce⟩ : ∃ ce, makeTo Prod.fst es q = ce := ⟨_, rfl⟩
          obtain ⟨p, hp⟩ : ∃ p, mkN Prod.fst es q = p := ⟨_, rfl⟩
          rw [hce] at HV HO
          rw [hp] at HO HG hmk g1
          go_wp2_with fail
          refine (rfinde_any _ _ _ _ ce _ v.1 _ HO.out.rd (Nat.le_refl _)).mono ?_
          rintro e wi ⟨rfl, B1⟩
          have hd0 : decide (0 ≤ edx ce v.1) = decide (Prod.fst v ∈ ce.map Prod.fst) := by
            have := idx_neg (ce.map (·.1)) v.1
            unfold edx
            by_cases hm : v.1 ∈ ce.map (·.1)
            · have h1 : ¬ idx (ce.map (·.1)) v.1 < 0 := by rw [this]; exact fun h => h hm
              have h2 : 0 ≤ idx (ce.map (·.1)) v.1 := by omega
              rw [decide_eq_true hm, decide_eq_true h2]
            · have h1 : idx (ce.map (·.1)) v.1 < 0 := by rw [this]; exact hm
              have h2 : ¬ 0 ≤ idx (ce.map (·.1)) v.1 := by omega
              rw [decide_eq_false hm, decide_eq_false h2]
          have hO1 := HO.out.below B1 HO.out.lt
          have hOU1 := HOU.out.below B1 HOU.out.lt
          have hR1 := HR.out.below B1 HR.out.lt
          have hG1 := HG.out.below B1 HG.out.lt
          have hX1 := HX.out.below B1 HX.out.lt
          have HBo := Lib.hid (HBR.out.trans (B1.mono HBR.out.size))
          have HOo := Lib.hid hO1
          have HOUo := Lib.hid hOU1
          have HRo := Lib.hid hR1
          have HGo := Lib.hid hG1
          have HXo := Lib.hid hX1
          obtain ⟨o0, o1⟩ := hG1.c2
          have hol := hG1.lt
          have hxl := hX1.lt
          have hzi := B1.size
          simp only [World.size_alloc] at hzi
          have HI0 : Hid (insTo Prod.fst ce v 0 = ([], decide (Prod.fst v ∈ ce.map Prod.fst))) := insTo_zero Prod.fst ce v
          clear B1 hO1 hOU1 hR1 hG1 hX1 HO HOU HR HG HBR HX g0 g1
          obtain ⟨dn0, hdn0⟩ : ∃ dn0, decide (Prod.fst v ∈ ce.map Prod.fst) = dn0 := ⟨_, rfl⟩
          rw [hdn0] at HI0 hd0
          clear hdn0
          go_wp2_with fail
          go_loopw [14, 15, 17, 73] (fun s14 s15 _ i wr => ∃ (j : Nat) (R2 : Option Nat) (A3 : Option Addr) (c3 : Nat) (nx : List Edg) (dn : Bool), j ≤ p ∧ i = .int .i64 j ∧ s14 = .slice A3 nx.length c3 ∧ s15 = .bool dn ∧ Hid (insTo Prod.fst ce v j = (nx, dn)) ∧ OwnE wr R2 A3 nx.length c3 nx ∧ (∀ g, R2 = some g → wi.heap.size ≤ g) ∧ Below wi.heap.size wi wr) (fun _ _ _ i _ => p - (intOf i).toNat)
          case atStart => exact ⟨0, none, none, 0, [], dn0, by omega, rfl, rfl, by simp [hd0], HI0, OwnE.nil_ _ _, by simp, Below.refl _ _⟩
          case round =>
            clear HI0 hd0
            obtain ⟨j, R2, A3, c3, nx, dn, hj, rfl, rfl, rfl, HI, hO2, hR2, hB2⟩ := hrel
            have hnl : nx.length ≤ j + 1 := by have := insTo_len Prod.fst ce v j; rw [HI.out] at this; simp only at this; split at this <;> omega
            have hXw := HXo.out.below hB2 HXo.out.lt
            by_cases hlt2 : j < p
            · have hq2 := HOo.out.rd.below hB2
              obtain ⟨ad2, x, rfl, hbl2, hx, hxb, hd1, hd2, hd3⟩ := hq2.at_ hlt2
              have HR2l := Lib.hid hO2.lt
              have HS : Hid (insTo Prod.fst ce v (j + 1) = stepK Prod.fst v (nx, dn) x) := by show _ = _; rw [insTo_succ hx, HI.out]
              have HB2 := Lib.hid (hB2.alloc hB2.size (.cells #[.int .u32 x.1, .int .u32 x.2.1, .int .u32 x.2.2] 39))
              have HO2 := Lib.hid (hO2.alloc (.cells #[.int .u32 x.1, .int .u32 x.2.1, .int .u32 x.2.2] 39))
              have HXv := Lib.hid (hXw.alloc (.cells #[.int .u32 x.1, .int .u32 x.2.1, .int .u32 x.2.2] 39))
              have HXx := Lib.hid (Blk.new wr 39 #[.int .u32 x.1, .int .u32 x.2.1, .int .u32 x.2.2])
              obtain ⟨z0, z1, z2⟩ := hXw.c3
              have hxl2 := hXw.lt
              clear hx hB2 hq2 hO2 hXw
              cases dn
              · by_cases hvx : v.1 < x.1
                · have HVX := Lib.hid hvx
                  go_wp2_with (first
                    | (at_builtin; refine appE1 rfl (.tmp 86) (.tmp 88) rfl _ R2 _ _ c3 nx rfl (HO2.out.alloc _) (wr.heap.size + 1) v rfl (by have := Blk.new (wr.alloc (.cells #[.int .u32 x.1, .int .u32 x.2.1, .int .u32 x.2.2] 39)) 39 #[.int .u32 v.1, .int .u32 v.2.1, .int .u32 v.2.2]; simp only [World.size_alloc] at this; exact this) hvb (by omega) ?_; intro r3 A4 c4 w3 m1 m2 m3; have hXv3 := (HXv.out.alloc (.cells #[.int .u32 v.1, .int .u32 v.2.1, .int .u32 v.2.2] 39)).grown m2 (fun e => by have := hR2 _ e.symm; omega); have hXx3 := (HXx.out.alloc (.cells #[.int .u32 v.1, .int .u32 v.2.1, .int .u32 v.2.2] 39)).grown m2 (fun e => by have := HR2l.out _ e.symm; omega); obtain ⟨x0, x1, x2⟩ := hXx3.c3; have hx3l := hXx3.lt)
                    | (at_builtin; refine appE1 rfl (.tmp 90) (.tmp 92) rfl _ r3 _ _ c4 (nx ++ [v]) rfl (m1.alloc _) w3.heap.size x rfl (Blk.new _ _ _) hxb (by omega) ?_; intro r4 A5 c5 w4 q1 q2 q3))
                  go_roundw
                  case rel =>
                    have hs3 := m2.size
                    have y0 := HB2.out.size
                    simp only [World.size_alloc] at hs3 y0
                    have hr3 := since_of (B := wi.heap.size) (w := (wr.alloc (.cells #[.int .u32 x.1, .int .u32 x.2.1, .int .u32 x.2.2] 39)).alloc (.cells #[.int .u32 v.1, .int .u32 v.2.1, .int .u32 v.2.2] 39)) (w' := w3) (by simp; omega) hR2 m3
                    have hr4 := since_of (B := wi.heap.size) (w := w3.alloc (.cells #[.int .u32 x.1, .int .u32 x.2.1, .int .u32 x.2.2] 39)) (w' := w4) (by simp; omega) hr3 q3
                    have hB3 := (HB2.out.alloc HB2.out.size (.cells #[.int .u32 v.1, .int .u32 v.2.1, .int .u32 v.2.2] 39)).grown m2 (by simp; omega) hR2
                    have hB4 := (hB3.alloc hB3.size (.cells #[.int .u32 x.1, .int .u32 x.2.1, .int .u32 x.2.2] 39)).grown q2 (by have := hB3.size; simp; omega) hr3
                    have hnx : (nx ++ [v] ++ [x]).length = nx.length + 1 + 1 := by simp
                    exact ⟨j + 1, r4, A5, c5, nx ++ [v] ++ [x], true, by omega, by go_num, by rw [hnx], rfl, by show _ = _; rw [HS.out, stepK_y (key := Prod.fst) HVX.out]; simp, by rw [hnx]; exact q1, hr4, hB4⟩
                  case measure => simp [intOf]; omega
                · have hvx' : decide (v.1 < x.1) = false := by simpa using hvx
                  have HVX := Lib.hid hvx
                  clear hvx
                  go_wp2_with (first
                    | (at_builtin; refine appE1 rfl (.tmp 90) (.tmp 92) rfl _ R2 _ _ c3 nx rfl (HO2.out.alloc _) (wr.heap.size + 1) x rfl (by have := Blk.new (wr.alloc (.cells #[.int .u32 x.1, .int .u32 x.2.1, .int .u32 x.2.2] 39)) 39 #[.int .u32 x.1, .int .u32 x.2.1, .int .u32 x.2.2]; simp only [World.size_alloc] at this; exact this) hxb (by omega) ?_; intro r3 A4 c4 w3 m1 m2 m3))
                  go_roundw
                  case rel =>
                    have y0 := HB2.out.size
                    simp only [World.size_alloc] at y0
                    have hr3 := since_of (B := wi.heap.size) (w := (wr.alloc (.cells #[.int .u32 x.1, .int .u32 x.2.1, .int .u32 x.2.2] 39)).alloc (.cells #[.int .u32 x.1, .int .u32 x.2.1, .int .u32 x.2.2] 39)) (w' := w3) (by simp; omega) hR2 m3
                    have hB3 := (HB2.out.alloc HB2.out.size (.cells #[.int .u32 x.1, .int .u32 x.2.1, .int .u32 x.2.2] 39)).grown m2 (by simp; omega) hR2
                    have hnx : (nx ++ [x]).length = nx.length + 1 := by simp
                    exact ⟨j + 1, r3, A4, c4, nx ++ [x], false, by omega, by go_num, by rw [hnx], rfl, by show _ = _; rw [HS.out, stepK_n (key := Prod.fst) HVX.out], by rw [hnx]; exact m1, hr3, hB3⟩
                  case measure => simp [intOf]; omega
              · go_wp2_with (first
                  | (at_builtin; refine appE1 rfl (.tmp 90) (.tmp 92) rfl _ R2 _ _ c3 nx rfl (HO2.out.alloc _) (wr.heap.size + 1) x rfl (by have := Blk.new (wr.alloc (.cells #[.int .u32 x.1, .int .u32 x.2.1, .int .u32 x.2.2] 39)) 39 #[.int .u32 x.1, .int .u32 x.2.1, .int .u32 x.2.2]; simp only [World.size_alloc] at this; exact this) hxb (by omega) ?_; intro r3 A4 c4 w3 m1 m2 m3))
                go_roundw
                case rel =>
                  have y0 := HB2.out.size
                  simp only [World.size_alloc] at y0
                  have hr3 := since_of (B := wi.heap.size) (w := (wr.alloc (.cells #[.int .u32 x.1, .int .u32 x.2.1, .int .u32 x.2.2] 39)).alloc (.cells #[.int .u32 x.1, .int .u32 x.2.1, .int .u32 x.2.2] 39)) (w' := w3) (by simp; omega) hR2 m3
                  have hB3 := (HB2.out.alloc HB2.out.size (.cells #[.int .u32 x.1, .int .u32 x.2.1, .int .u32 x.2.2] 39)).grown m2 (by simp; omega) hR2
                  have hnx : (nx ++ [x]).length = nx.length + 1 := by simp
                  exact ⟨j + 1, r3, A4, c4, nx ++ [x], true, by omega, by go_num, by rw [hnx], rfl, by show _ = _; rw [HS.out, stepK_d], by rw [hnx]; exact m1, hr3, hB3⟩
                case measure => simp [intOf]; omega
            · obtain rfl : j = p := by omega
              have HF : Hid (finK v (nx, dn) = putK Prod.fst ce v) := by
                show _ = _; rw [← HI.out]; exact insTo_all HOo.out.len
              have hBo := HBo.out.trans (hB2.mono HBo.out.size)
              have hRn := HRo.out.below hB2 HRo.out.lt
              have hGn := HGo.out.below hB2 HGo.out.lt
              have hUn := HOUo.out.below hB2 HOUo.out.lt
              have HRn := Lib.hid hRn
              have HGn := Lib.hid hGn
              have HBn := Lib.hid hBo
              have HUn := Lib.hid hUn
              have HO2 := Lib.hid hO2
              have hzw := hB2.size
              have hgl := hGn.lt
              have hxl2 := hXw.lt
              obtain ⟨g0, g1⟩ := hGn.c2
              obtain ⟨z0, z1, z2⟩ := hXw.c3
              have f1 := hGn.frozen 1
              clear hBo hRn hGn hB2 hUn hO2 HRo HGo HOo HBo HOUo o0 o1
              cases dn
              · go_wp2_with (first
                  | (at_builtin; refine appE1 rfl (.tmp 97) (.tmp 99) rfl _ R2 _ _ c3 nx rfl (HO2.out.alloc _) wr.heap.size v rfl (Blk.new _ _ _) hvb (by omega) ?_; intro r3 A4 c4 w3 m1 m2 m3; have hG3 := (HGn.out.alloc (.cells #[.int .u32 v.1, .int .u32 v.2.1, .int .u32 v.2.2] 39)).grown m2 (fun e => by have := hR2 _ e.symm; omega); have hgl3 := hG3.lt; obtain ⟨k0, k1⟩ := hG3.c2; have kf1 := hG3.frozen 1))
                go_roundw
                case rel =>
                  have hmk1 : mkN Prod.fst es (q + 1) = nx.length + 1 := by unfold mkN; rw [HV.out, ← HF.out]; simp [finK]
                  have hmk2 : makeTo Prod.fst es (q + 1) = nx ++ [v] := by rw [HV.out, ← HF.out]; rfl
                  have hR3 := (HRn.out.alloc (.cells #[.int .u32 v.1, .int .u32 v.2.1, .int .u32 v.2.2] 39)).grown m2 (fun e => by have := hR2 _ e.symm; omega)
                  have hr3 := since_of (B := wi.heap.size) (w := wr.alloc (.cells #[.int .u32 v.1, .int .u32 v.2.1, .int .u32 v.2.2] 39)) (w' := w3) (by simp; omega) hR2 m3
                  have hB3 := (HBn.out.alloc HBn.out.size (.cells #[.int .u32 v.1, .int .u32 v.2.1, .int .u32 v.2.2] 39)).grown m2 (by have := HBn.out.size; simp; omega) (fun g e => by have := hR2 g e; omega)
                  have hU3 := (HUn.out.alloc (.cells #[.int .u32 v.1, .int .u32 v.2.1, .int .u32 v.2.2] 39)).kept m2 (by
                    cases hr1' : r1 with
                    | none => exact .inl rfl
                    | some g => right; intro e; have a := HOL.out g hr1'; have b := hR2 g e.symm; omega)
                  exact ⟨q + 1, r3, A4, c4, by omega, by go_num, by rw [hmk1, hmk2]; exact m1.setCell_far (fun g e => by have := hr3 g e; simp; omega) _, fun g e => by have := hr3 g e; omega, hU3.setCell_far (fun g e => by have := hr1 g e; simp; omega) _, hB3.setCell (by simp) _, by have := m2.size; simp at this ⊢; omega, hR3.far (by simp) _, by rw [hmk1]; simpa using hG3.set_ 1 _⟩
                case measure => simp [intOf]; omega
              · go_wp2_with fail
                go_roundw
                case rel =>
                  have hmk1 : mkN Prod.fst es (q + 1) = nx.length := by unfold mkN; rw [HV.out, ← HF.out]; simp [finK]
                  have hmk2 : makeTo Prod.fst es (q + 1) = nx := by rw [HV.out, ← HF.out]; rfl
                  exact ⟨q + 1, R2, A3, c3, by omega, by go_num, by rw [hmk1, hmk2]; exact HO2.out.setCell_far (fun g e => by have := hR2 g e; simp; omega) _, fun g e => by have := hR2 g e; omega, HUn.out.setCell_far (fun g e => by have := hr1 g e; simp; omega) _, HBn.out.setCell (by simp) _, by simp; omega, HRn.out.far (by simp) _, by rw [hmk1]; simpa using HGn.out.set_ 1 _⟩
                case measure => simp [intOf]; omega
        · obtain rfl : q = n' := by omega
          obtain ⟨g0, g1⟩ := hG.c2
          obtain ⟨r0, r1'⟩ := hR.c2
          have f0 := hR.frozen 0
          have f1 := hR.frozen 1
          have hrl := hR.lt
          have hgl := hG.lt
          have HO := Lib.hid hown
          have HU := Lib.hid hou
          have HBR := Lib.hid hbr
          clear hown hou hbr
          go_wp2_with fail
          refine bodyPost_ret (v := .agg #[.slice A1 m c1, .slice A2 (mkN Prod.fst es q) c2]) (by simp [results, Try.results72, go_sem, r0, r1']) rfl ?_
          refine ⟨r1, A1, c1, r2, A2, c2, by rw [hm], ?_, ?_, ?_, fun g e => by have := hr1 g e; omega, fun g e => by have := hr2 g e; omega⟩
          · rw [hm, hcur]
            exact (HU.out.setCell_far (p := ⟨w.heap.size, 0, none⟩) (fun g e => by have := hr1 g e; simp; omega) _).setCell_far (p := ⟨w.heap.size, 1, none⟩) (fun g e => by have := hr1 g e; simp; omega) _
          · exact (HO.out.setCell_far (p := ⟨w.heap.size, 0, none⟩) (fun g e => by have := hr2 g e; simp; omega) _).setCell_far (p := ⟨w.heap.size, 1, none⟩) (fun g e => by have := hr2 g e; simp; omega) _
          · exact (HBR.out.setCell (p := ⟨w.heap.size, 0, none⟩) (Nat.le_refl _) _).setCell (p := ⟨w.heap.size, 1, none⟩) (Nat.le_refl _) _
end Go.Proofs.Ytklmckbpbloonaa

namespace Go.Proofs.Ytklmckbpbloonaa
open Go.RowKit

set_option maxRecDepth 100000 in
theorem rhasE_any (B : Nat) (A : Option Addr) (n c : Nat) (es : List Edg) (x : Edg) (w : World) (h : RdE w B A n c es) (hB : B ≤ w.heap.size) :
    Calls Try.prog 71 #[.slice A n c, edV x] w fun e w' => e = .returned (.bool (hasE es x)) ∧ Below w.heap.size w w' := by
  have hl := h.len
  obtain ⟨hn, hc⟩ := h.bd
  have HB1 := Lib.hid ((Below.refl w.heap.size w).alloc (Nat.le_refl _) (.cells #[.int .u32 x.1, .int .u32 x.2.1, .int .u32 x.2.2] 39))
  have HX1 := Lib.hid (Blk.new w 39 #[.int .u32 x.1, .int .u32 x.2.1, .int .u32 x.2.2])
  have HL := Lib.hid hl
  clear hl
  rw [← edV_lit]
  go_enter Try.func71, Try.ntmps71
  go_wp2_with fail
  go_loopw [6, 9] (fun _ s9 wr => ∃ k : Nat, k ≤ n ∧ s9 = .int .i64 k ∧ Below w.heap.size w wr ∧ Blk wr w.heap.size 39 #[.int .u32 x.1, .int .u32 x.2.1, .int .u32 x.2.2] ∧ Hid (x ∉ es.take k)) (fun _ s9 _ => n - (intOf s9).toNat)
  case atStart => exact ⟨0, by omega, rfl, HB1.out, HX1.out, by show _ ∉ _; simp⟩
  case round =>
    clear HB1 HX1
    obtain ⟨k, hk, rfl, hbr, hX, hM⟩ := hrel
    by_cases hlt : k < n
    · have hq := h.below (hbr.mono hB)
      obtain ⟨ad, y, rfl, hbl, hy, hyb, hc1, hc2, hc3⟩ := hq.at_ hlt
      obtain ⟨z0, z1, z2⟩ := hX.c3
      have hXl := hX.lt
      have HX := Lib.hid (hX.alloc (.cells #[.int .u32 y.1, .int .u32 y.2.1, .int .u32 y.2.2] 39))
      have HBR := Lib.hid (hbr.alloc hbr.size (.cells #[.int .u32 y.1, .int .u32 y.2.1, .int .u32 y.2.2] 39))
      have HY := Lib.hid hy
      clear hX hbr hq hy
      by_cases e : y = x
      · subst e
        go_wp2_with fail
        go_ret
        exact ⟨ret_bool (by unfold hasE; rw [decide_eq_true (List.mem_of_getElem? HY.out)]), HBR.out⟩
      · have HE := Lib.hid e
        have e' : ¬ (y.1 = x.1 ∧ y.2.1 = x.2.1 ∧ y.2.2 = x.2.2) := fun h => e (Prod.ext h.1 (Prod.ext h.2.1 h.2.2))
        clear e
        by_cases d1 : y.1 = x.1
        · by_cases d2 : y.2.1 = x.2.1
          · have d3 : ¬ y.2.2 = x.2.2 := fun h => e' ⟨d1, d2, h⟩
            clear e'
            go_wp2_with fail
            go_roundw
            case rel => exact ⟨k + 1, by omega, by go_num, by have q := HBR.out; rw [d1, d2] at q; exact q, by have q := HX.out; rw [d1, d2] at q; exact q, by show _ ∉ _; rw [takeE_at HY.out]; simp only [List.mem_append, List.mem_singleton, not_or]; exact ⟨hM.out, fun h => HE.out h.symm⟩⟩
            case measure => simp [intOf]; omega
          · clear e'
            go_wp2_with fail
            go_roundw
            case rel => exact ⟨k + 1, by omega, by go_num, by have q := HBR.out; rw [d1] at q; exact q, by have q := HX.out; rw [d1] at q; exact q, by show _ ∉ _; rw [takeE_at HY.out]; simp only [List.mem_append, List.mem_singleton, not_or]; exact ⟨hM.out, fun h => HE.out h.symm⟩⟩
            case measure => simp [intOf]; omega
        · clear e'
          go_wp2_with fail
          go_roundw
          case rel => exact ⟨k + 1, by omega, by go_num, HBR.out, HX.out, by show _ ∉ _; rw [takeE_at HY.out]; simp only [List.mem_append, List.mem_singleton, not_or]; exact ⟨hM.out, fun h => HE.out h.symm⟩⟩
          case measure => simp [intOf]; omega
    · obtain rfl : k = n := by omega
      go_wp2_with fail
      go_ret
      exact ⟨ret_bool (by have := hM.out; rw [List.take_of_length_le (by rw [HL.out]; exact Nat.le_refl _)] at this; unfold hasE; rw [decide_eq_false this]), hbr⟩
end Go.Proofs.Ytklmckbpbloonaa

namespace Go.Proofs.Ytklmckbpbloonaa
open Go.RowKit

/-- The least number that stands twice, as it is found: b: does the present one, x, stand ahead? -/
def inT (c x : Int) (b : Bool) : Int := if b && (decide (c = 0) || decide (x < c)) then x else c
theorem clash_inT {es : List Edg} {k : Nat} {x : Edg} (h : es[k]? = some x) : clashTo es (k + 1) = inT (clashTo es k) x.1 (decide (x.1 ∈ idsTo es k)) := by
  rw [clashTo, K_at h]; rfl
theorem inT_no (c x : Int) : inT c x false = c := by simp [inT]
theorem inT_hit (c x : Int) (b : Bool) (h : inT c x b = 0 ∨ x < inT c x b) : x = inT c x true := by
  cases b
  · rw [inT_no] at h
    unfold inT
    rcases h with h | h
    · simp [h]
    · simp [h]
  · unfold inT at h ⊢
    split at h
    · rename_i e; rw [if_pos e]
    · rename_i e
      simp only [Bool.true_and, Bool.or_eq_true, decide_eq_true_eq] at e
      exact absurd h e
theorem inT_miss (c x : Int) (b : Bool) (h : ¬ (inT c x b = 0 ∨ x < inT c x b)) : inT c x b = inT c x true := by
  cases b
  · rw [inT_no] at h ⊢
    unfold inT
    rw [if_neg]
    simpa using h
  · rfl
theorem inT_ok {c x : Int} (b : Bool) (hc : 0 ≤ c ∧ c < 4294967296) (hx : 0 ≤ x ∧ x < 4294967296) : 0 ≤ inT c x b ∧ inT c x b < 4294967296 := by
  unfold inT; split
  · exact hx
  · exact hc
theorem idsTo_in {es : List Edg} {j : Nat} {y : Edg} (h : es[j]? = some y) (x : Int) : decide (x ∈ idsTo es (j + 1)) = (decide (x ∈ idsTo es j) || decide (x = y.1)) := by
  rw [idsTo_succ h]
  by_cases h1 : x ∈ idsTo es j <;> by_cases h2 : x = y.1 <;> simp [h1, h2]
theorem belongs_A (b t : Bool) : (true && t || true && !b || t && !b) = (t || !b) := by cases b <;> cases t <;> rfl
theorem belongs_B (b : Bool) : (false && true || false && !b || true && !b) = !b := by cases b <;> rfl
set_option maxRecDepth 100000 in
set_option maxHeartbeats 4000000 in
theorem rof_any (B : Nat) (vb vo vt : Value) (b o t : Gph) (w : World) (hb : RdG w B vb b) (ho : RdG w B vo o) (ht : RdG w B vt t) (hB : B ≤ w.heap.size)
    (s1 : o.1.length ≤ 1000) (s2 : t.1.length ≤ 1000) (s3 : o.2.length ≤ 1000) (s4 : t.2.length ≤ 1000) :
    Calls Try.prog 35 #[vb, vo, vt] w fun e w' => ∃ gv, e = .returned (.tuple #[gv, .int .u32 (unR b o t).2.1, .int .i64 (unR b o t).2.2]) ∧ RdG w' w'.heap.size gv (unR b o t).1 ∧ Below w.heap.size w w' := by
  obtain ⟨Ab, nb, cb, Ab', nb', cb', rfl, hb1, hb2⟩ := hb
  obtain ⟨Ao, no, co, Ao', no', co', rfl, ho1, ho2⟩ := ho
  obtain ⟨At, nt, ct, At', nt', ct', rfl, ht1, ht2⟩ := ht
  have lo1 := ho1.len
  have lo2 := ho2.len
  have lt1 := ht1.len
  have lt2 := ht2.len
  have HN1 := Lib.hid (allN_le b.1 o.1 t.1)
  have HN2 := Lib.hid (allE_le b.2 o.2 t.2)
  have HF0 := Lib.hid (OfFr.first w (.slice Ab nb cb) (.slice Ab' nb' cb') (.slice Ao no co) (.slice Ao' no' co') (.slice At nt ct) (.slice At' nt' ct'))
  obtain ⟨hbc1, hbc2⟩ := ho2.bd
  obtain ⟨htc1, htc2⟩ := ht2.bd
  have HLo := Lib.hid lo2
  have HLt := Lib.hid lt2
  go_enter Try.func35, Try.ntmps35
  go_wp2_with fail
  go_loopw [9, 11, 25] (fun ov _ i wr => ∃ (k : Nat) (r : Option Nat) (A : Option Addr) (c : Nat), k ≤ no' ∧ i = .int .i64 k ∧ ov = .slice A (fltEN o.2 (pAE b.2 t.2) k) c ∧ OwnE wr r A (fltEN o.2 (pAE b.2 t.2) k) c (fltE o.2 (pAE b.2 t.2) k) ∧ (∀ g, r = some g → w.heap.size + 4 ≤ g) ∧ OfFr w wr (.slice Ab nb cb) (.slice Ab' nb' cb') (.slice Ao no co) (.slice Ao' no' co') (.slice At nt ct) (.slice At' nt' ct')) (fun _ _ i _ => no' - (intOf i).toNat)
  case atStart => exact ⟨0, none, none, 0, by omega, rfl, by simp [fltEN, fltE], by simpa [fltEN, fltE] using OwnE.nil_ _ _, by simp, HF0.out⟩
  case round =>
    clear HF0
    obtain ⟨k, r, A, c, hk, rfl, rfl, hown, hr, hF⟩ := hrel
    have hFs := hF.size
    have hbs := hF.below
    by_cases hlt : k < no'
    · have hq := ho2.below (hbs.mono hB)
      obtain ⟨ad, x, rfl, hbl, hx, hxb, hc1, hc2, hc3⟩ := hq.at_ hlt
      have hle := fltEN_le o.2 (pAE b.2 t.2) k
      have HN : Hid (fltEN o.2 (pAE b.2 t.2) (k + 1) = fltEN o.2 (pAE b.2 t.2) k + if pAE b.2 t.2 x then 1 else 0) := fltEN_succ hx
      have HT : Hid (fltE o.2 (pAE b.2 t.2) (k + 1) = fltE o.2 (pAE b.2 t.2) k ++ if pAE b.2 t.2 x then [x] else []) := fltE_succ hx
      have hb1 := (Below.refl wr.heap.size wr).alloc (Nat.le_refl _) (.cells #[.int .u32 x.1, .int .u32 x.2.1, .int .u32 x.2.2] 39)
      have HFX := Lib.hid (hF.on hb1)
      have HOX := Lib.hid (hown.alloc (.cells #[.int .u32 x.1, .int .u32 x.2.1, .int .u32 x.2.2] 39))
      have HZX := Lib.hid (Blk.new wr 39 #[.int .u32 x.1, .int .u32 x.2.1, .int .u32 x.2.2])
      have HBX := Lib.hid HFX.out.below
      have HFS := Lib.hid hFs
      obtain ⟨f0, f1⟩ := hF.b.c2
      obtain ⟨f2, f3⟩ := hF.t.c2
      have hbl0 := hF.b.lt
      have hbl2 := hF.t.lt
      have HS : Hid (∀ W : World, Below (wr.heap.size + 1) (wr.alloc (.cells #[.int .u32 x.1, .int .u32 x.2.1, .int .u32 x.2.2] 39)) W → W.cell? ⟨w.heap.size, 1, none⟩ = some (.slice Ab' nb' cb') ∧ W.cell? ⟨w.heap.size + 1 + 1, 1, none⟩ = some (.slice At' nt' ct') ∧ W.cell? ⟨wr.heap.size, 0, none⟩ = some (.int .u32 x.1) ∧ W.cell? ⟨wr.heap.size, 1, none⟩ = some (.int .u32 x.2.1) ∧ W.cell? ⟨wr.heap.size, 2, none⟩ = some (.int .u32 x.2.2)) := by
        intro W hW
        have hb := HFX.out.b.below hW (by omega)
        have ht := HFX.out.t.below hW (by omega)
        have hz := HZX.out.below hW (by omega)
        exact ⟨hb.c2.2, ht.c2.2, hz.c3⟩
      have HK := Lib.hid hr
      clear hx hown hF hbs hq hb1 hr
      go_wp2_with fail
      refine wp_region_held_drew (S := fun W => Below (wr.heap.size + 1) (wr.alloc (.cells #[.int .u32 x.1, .int .u32 x.2.1, .int .u32 x.2.2] 39)) W) (by kernel_rfl) (by have := (Below.refl (wr.alloc (.cells #[.int .u32 x.1, .int .u32 x.2.1, .int .u32 x.2.2] 39)).heap.size (wr.alloc (.cells #[.int .u32 x.1, .int .u32 x.2.1, .int .u32 x.2.2] 39))); simp only [World.size_alloc] at this; exact this.drew) (fun hHeld => ?_)
      refine held_take 0 29 (.pointer (some ⟨w.heap.size, 1, none⟩)) (by simp only [List.getElem?_toArray, List.getElem?_cons_zero]; rfl) rfl rfl (by kernel_rfl) (by kernel_rfl) (by kernel_rfl) (fun _ _ _ _ h => h) (by intro W hW; go_simp) hHeld ?_
      simp only [List.setIfInBounds_toArray, List.set_cons_zero, List.set_cons_succ]
      refine held_take 1 30 (.slice Ab' nb' cb') (by simp only [List.getElem?_toArray, List.getElem?_cons_succ, List.getElem?_cons_zero]; rfl) rfl rfl (by kernel_rfl) (by kernel_rfl) (by kernel_rfl) (fun _ _ _ _ h => h) (by intro W hW; have z := (HS.out W hW).1; go_simp) hHeld ?_
      simp only [List.setIfInBounds_toArray, List.set_cons_zero, List.set_cons_succ]
      refine held_take 2 31 (edV x) (by simp only [List.getElem?_toArray, List.getElem?_cons_succ, List.getElem?_cons_zero]; rfl) rfl rfl (by kernel_rfl) (by kernel_rfl) (by kernel_rfl) (fun _ _ _ _ h => h) (by intro W hW; obtain ⟨_, _, z1, z2, z3⟩ := HS.out W hW; unfold edV edC; go_simp) hHeld ?_
      simp only [List.setIfInBounds_toArray, List.set_cons_zero, List.set_cons_succ]
      refine held_take 4 33 (.pointer (some ⟨w.heap.size + 1 + 1, 1, none⟩)) (by simp only [List.getElem?_toArray, List.getElem?_cons_succ, List.getElem?_cons_zero]; rfl) rfl rfl (by kernel_rfl) (by kernel_rfl) (by kernel_rfl) (fun _ _ _ _ h => h) (by intro W hW; go_simp) hHeld ?_
      simp only [List.setIfInBounds_toArray, List.set_cons_zero, List.set_cons_succ]
      refine held_take 5 34 (.slice At' nt' ct') (by simp only [List.getElem?_toArray, List.getElem?_cons_succ, List.getElem?_cons_zero]; rfl) rfl rfl (by kernel_rfl) (by kernel_rfl) (by kernel_rfl) (fun _ _ _ _ h => h) (by intro W hW; have z := (HS.out W hW).2.1; go_simp) hHeld ?_
      simp only [List.setIfInBounds_toArray, List.set_cons_zero, List.set_cons_succ]
      refine held_take 6 35 (edV x) (by simp only [List.getElem?_toArray, List.getElem?_cons_succ, List.getElem?_cons_zero]; rfl) rfl rfl (by kernel_rfl) (by kernel_rfl) (by kernel_rfl) (fun _ _ _ _ h => h) (by intro W hW; obtain ⟨_, _, z1, z2, z3⟩ := HS.out W hW; unfold edV edC; go_simp) hHeld ?_
      simp only [List.setIfInBounds_toArray, List.set_cons_zero, List.set_cons_succ]
      refine held_call 3 32 71 #[.slice Ab' nb' cb', edV x] (by simp only [List.getElem?_toArray, List.getElem?_cons_succ, List.getElem?_cons_zero]; rfl) rfl rfl (by kernel_rfl) (by intro W; go_simp) ?_
      have HB8 := Lib.hid hHeld.size
      refine (rhasE_any B _ _ _ b.2 x _ (hb2.below (HBX.out.trans (hHeld.mono (by have := HFS.out; omega)) |>.mono hB)) (by have := HFS.out; have := HB8.out; simp only [World.size_alloc] at this; omega)).mono ?_
      rintro e w3 ⟨rfl, B3⟩
      have hHeld := hHeld.trans (B3.mono (by have := HB8.out; simp only [World.size_alloc] at this; omega))
      refine ⟨_, rfl, hHeld, ?_⟩
      simp only [List.setIfInBounds_toArray, List.set_cons_zero, List.set_cons_succ]
      refine held_call 7 36 71 #[.slice At' nt' ct', edV x] (by simp only [List.getElem?_toArray, List.getElem?_cons_succ, List.getElem?_cons_zero]; rfl) rfl rfl (by kernel_rfl) (by intro W; go_simp) ?_
      have HB9 := Lib.hid hHeld.size
      refine (rhasE_any B _ _ _ t.2 x _ (ht2.below (HBX.out.trans (hHeld.mono (by have := HFS.out; omega)) |>.mono hB)) (by have := HFS.out; have := HB9.out; simp only [World.size_alloc] at this; omega)).mono ?_
      rintro e w4 ⟨rfl, B4⟩
      have hHeld := hHeld.trans (B4.mono (by have := HB9.out; simp only [World.size_alloc] at this; omega))
      refine ⟨_, rfl, hHeld, ?_⟩
      simp only [List.setIfInBounds_toArray, List.set_cons_zero, List.set_cons_succ]
      refine held_call 8 37 65 #[.bool (hasE b.2 x), .bool true, .bool (hasE t.2 x)] (by simp only [List.getElem?_toArray, List.getElem?_cons_succ, List.getElem?_cons_zero]; rfl) rfl rfl (by kernel_rfl) (by intro W; go_simp) ?_
      refine (belongs_any _ _ _ _).mono ?_
      rintro e w5 ⟨rfl, rfl⟩
      refine ⟨_, rfl, hHeld, ?_⟩
      simp only [List.setIfInBounds_toArray, List.set_cons_zero, List.set_cons_succ]
      refine wpAnyH_done (by kernel_rfl) ?_ _
      rw [belongs_A]
      obtain ⟨pp, hpp⟩ : ∃ pp, (hasE t.2 x || !hasE b.2 x) = pp := ⟨_, rfl⟩
      rw [hpp]
      have HP : Hid (pAE b.2 t.2 x = pp) := hpp
      clear hpp
      have HH := Lib.hid hHeld
      have hHs := hHeld.size
      simp only [World.size_alloc] at hHs
      have HF9 := Lib.hid (HFX.out.on (by simpa using hHeld))
      have HO9 := Lib.hid (HOX.out.below hHeld (by intro g e; have := HOX.out.lt g e; simpa using this))
      have HZ9 := Lib.hid (HZX.out.below hHeld (by omega))
      clear hHeld
      cases pp
      · go_wp2_with fail
        go_roundw
        case rel =>
          have hN := HN.out
          have hT := HT.out
          rw [HP.out] at hN hT
          simp only [Bool.false_eq_true, if_false, Nat.add_zero, List.append_nil] at hN hT
          exact ⟨k + 1, r, A, c, by omega, by go_num, by rw [hN], by rw [hN, hT]; exact HO9.out, HK.out, HF9.out⟩
        case measure => simp [intOf]; omega
      · obtain ⟨z0, z1, z2⟩ := HZ9.out.c3
        have hzl := HZ9.out.lt
        go_wp2_with (first
          | (at_builtin; refine appE1 rfl (.tmp 38) (.tmp 40) rfl _ r _ _ c (fltE o.2 (pAE b.2 t.2) k) rfl (HO9.out.alloc (.cells #[.int .u32 x.1, .int .u32 x.2.1, .int .u32 x.2.2] 39)) w4.heap.size x rfl (Blk.new _ _ _) hxb (by omega) ?_; intro r3 A3 c3 w6 m1 m2 m3))
        go_roundw
        case rel =>
          have hr3 : ∀ g, r3 = some g → w.heap.size + 4 ≤ g := since_of (w := w4.alloc (.cells #[.int .u32 x.1, .int .u32 x.2.1, .int .u32 x.2.2] 39)) (w' := w6) (by have := HF9.out.size; simp; omega) HK.out m3
          have hN := HN.out
          have hT := HT.out
          rw [HP.out] at hN hT
          simp only [if_true] at hN hT
          exact ⟨k + 1, r3, A3, c3, by omega, by go_num, by rw [hN], by rw [hN, hT]; exact m1, hr3, (HF9.out.alloc (.cells #[.int .u32 x.1, .int .u32 x.2.1, .int .u32 x.2.2] 39)).grown m2 HK.out⟩
        case measure => simp [intOf]; omega
    · obtain rfl : no' = k := by omega
      obtain ⟨wo, rfl⟩ : ∃ wo : World, wo = wr := ⟨_, rfl⟩
      rw [← allETN_zero b.2 o.2 t.2] at hown ⊢
      rw [← allETo_zero] at hown
      have HOW := Lib.hid hown
      have HFW := Lib.hid hF
      have HRW := Lib.hid hr
      obtain ⟨f0, f1⟩ := hF.b.c2
      obtain ⟨f2, f3⟩ := hF.o.c2
      obtain ⟨f4, f5⟩ := hF.t.c2
      have hbl0 := hF.b.lt
      have hbl1 := hF.o.lt
      have hbl2 := hF.t.lt
      clear hown hF hr hbs
      go_wp2_with fail
      go_loopw [9, 13, 46] (fun ov _ i wr => ∃ (m : Nat) (r : Option Nat) (A : Option Addr) (c : Nat), m ≤ nt' ∧ i = .int .i64 m ∧ ov = .slice A (allETN b.2 o.2 t.2 no' m) c ∧ OwnE wr r A (allETN b.2 o.2 t.2 no' m) c (allETo b.2 o.2 t.2 no' m) ∧ (∀ g, r = some g → w.heap.size + 4 ≤ g) ∧ OfFr w wr (.slice Ab nb cb) (.slice Ab' nb' cb') (.slice Ao no co) (.slice Ao' no' co') (.slice At nt ct) (.slice At' nt' ct')) (fun _ _ i _ => nt' - (intOf i).toNat)
      case atStart => exact ⟨0, r, A, c, by omega, rfl, rfl, HOW.out, HRW.out, HFW.out⟩
      case round =>
        clear HOW HFW HRW f0 f1 f2 f3 f4 f5 hbl0 hbl1 hbl2
        obtain ⟨m, r, A, c, hm, rfl, rfl, hown, hr, hF⟩ := hrel
        have hle1 := fltEN_le o.2 (pAE b.2 t.2) no'
        have hle2 := fltEN_le t.2 (pBE b.2 o.2) m
        have hle : allETN b.2 o.2 t.2 no' m ≤ 2000 := by unfold allETN; omega
        clear hle1 hle2
        have hbs := hF.below
        by_cases hlt2 : m < nt'
        · have hq := ht2.below (hbs.mono hB)
          obtain ⟨ad, x, rfl, hbl, hx, hxb, hc1, hc2, hc3⟩ := hq.at_ hlt2
          have HN : Hid (allETN b.2 o.2 t.2 no' (m + 1) = allETN b.2 o.2 t.2 no' m + if pBE b.2 o.2 x then 1 else 0) := by
            show _ = _; unfold allETN; rw [fltEN_succ hx]; omega
          have HT : Hid (allETo b.2 o.2 t.2 no' (m + 1) = allETo b.2 o.2 t.2 no' m ++ if pBE b.2 o.2 x then [x] else []) := by
            show _ = _; unfold allETo; rw [fltE_succ hx]; simp
          have hb1 := (Below.refl wr.heap.size wr).alloc (Nat.le_refl _) (.cells #[.int .u32 x.1, .int .u32 x.2.1, .int .u32 x.2.2] 39)
          have HFX := Lib.hid (hF.on hb1)
          have HOX := Lib.hid (hown.alloc (.cells #[.int .u32 x.1, .int .u32 x.2.1, .int .u32 x.2.2] 39))
          have HZX := Lib.hid (Blk.new wr 39 #[.int .u32 x.1, .int .u32 x.2.1, .int .u32 x.2.2])
          have HK := Lib.hid hr
          have hFs := hF.size
          obtain ⟨f2, f3⟩ := hF.o.c2
          have hbl1 := hF.o.lt
          clear hx hown hF hbs hq hb1 hr
          go_wp2_with fail
          rw [edV_lit]
          refine (rhasE_any B _ _ _ o.2 x _ (ho2.below (HFX.out.below.mono hB)) (by have := HFX.out.below.size; omega)).mono ?_
          rintro e w2 ⟨rfl, B2⟩
          have hF2 := HFX.out.on B2
          have HF2 := Lib.hid hF2
          have HO2 := Lib.hid (HOX.out.below B2 HOX.out.lt)
          have hZ2 := HZX.out.below B2 HZX.out.lt
          have HZ2 := Lib.hid hZ2
          obtain ⟨f0, f1⟩ := hF2.b.c2
          have hbl0 := hF2.b.lt
          obtain ⟨z0, z1, z2⟩ := hZ2.c3
          have hzl := hZ2.lt
          clear B2 hF2 hZ2 HFX HOX HZX f2 f3 hbl1
          cases h1 : hasE o.2 x
          · have H1 := Lib.hid h1
            clear h1
            go_wp2_with fail
            rw [edV_lit]
            refine (rhasE_any B _ _ _ b.2 x _ (hb2.below (HF2.out.below.mono hB)) (by have := HF2.out.below.size; omega)).mono ?_
            rintro e w3 ⟨rfl, B3⟩
            have HF3 := Lib.hid (HF2.out.on B3)
            have HO3 := Lib.hid (HO2.out.below B3 HO2.out.lt)
            have hZ3 := HZ2.out.below B3 HZ2.out.lt
            have HZ3 := Lib.hid hZ3
            obtain ⟨z0, z1, z2⟩ := hZ3.c3
            have hzl := hZ3.lt
            clear B3 hZ3 HF2 HO2 HZ2 f0 f1 hbl0
            go_wp2_with fail
            refine (belongs_any _ _ _ _).mono ?_
            rintro e w4 ⟨rfl, rfl⟩
            rw [belongs_B]
            cases h2 : hasE b.2 x
            · have H2 := Lib.hid h2
              clear h2
              go_wp2_with (first
                | (at_builtin; refine appE1 rfl (.tmp 62) (.tmp 64) rfl _ r _ _ c (allETo b.2 o.2 t.2 no' m) rfl (HO3.out.alloc (.cells #[.int .u32 x.1, .int .u32 x.2.1, .int .u32 x.2.2] 39)) w3.heap.size x rfl (Blk.new _ _ _) hxb (by omega) ?_; intro r3 A3 c3 w6 m1 m2 m3))
              go_roundw
              case rel =>
                have hp : pBE b.2 o.2 x = true := by simp [pBE, H1.out, H2.out]
                have hr3 : ∀ g, r3 = some g → w.heap.size + 4 ≤ g := since_of (w := w3.alloc (.cells #[.int .u32 x.1, .int .u32 x.2.1, .int .u32 x.2.2] 39)) (w' := w6) (by have := HF3.out.size; simp; omega) HK.out m3
                have hN := HN.out
                have hT := HT.out
                rw [hp] at hN hT
                simp only [if_true] at hN hT
                exact ⟨m + 1, r3, A3, c3, by omega, by go_num, by rw [hN], by rw [hN, hT]; exact m1, hr3, (HF3.out.alloc (.cells #[.int .u32 x.1, .int .u32 x.2.1, .int .u32 x.2.2] 39)).grown m2 HK.out⟩
              case measure => simp [intOf]; omega
            · have H2 := Lib.hid h2
              clear h2
              go_wp2_with fail
              go_roundw
              case rel =>
                have hp : pBE b.2 o.2 x = false := by simp [pBE, H1.out, H2.out]
                have hN := HN.out
                have hT := HT.out
                rw [hp] at hN hT
                simp only [Bool.false_eq_true, if_false, Nat.add_zero, List.append_nil] at hN hT
                exact ⟨m + 1, r, A, c, by omega, by go_num, by rw [hN], by rw [hN, hT]; exact HO3.out, HK.out, HF3.out⟩
              case measure => simp [intOf]; omega
          · have H1 := Lib.hid h1
            clear h1
            go_wp2_with fail
            go_roundw
            case rel =>
              have hp : pBE b.2 o.2 x = false := by simp [pBE, H1.out]
              have hN := HN.out
              have hT := HT.out
              rw [hp] at hN hT
              simp only [Bool.false_eq_true, if_false, Nat.add_zero, List.append_nil] at hN hT
              exact ⟨m + 1, r, A, c, by omega, by go_num, by rw [hN], by rw [hN, hT]; exact HO2.out, HK.out, HF2.out⟩
            case measure => simp [intOf]; omega
        · obtain rfl : nt' = m := by omega
          obtain ⟨wo, rfl⟩ : ∃ wo : World, wo = wr := ⟨_, rfl⟩
          have e1 := allETo_all b.2 o.2 t.2 HLo.out HLt.out
          obtain ⟨l, hl⟩ : ∃ l, allE b.2 o.2 t.2 = l := ⟨_, rfl⟩
          rw [hl] at e1
          rw [e1] at hown
          obtain ⟨n, hn⟩ : ∃ n, allETN b.2 o.2 t.2 no' nt' = n := ⟨_, rfl⟩
          rw [hn] at hown hle
          rw [hn]
          have hln := hown.len
          have HL : Hid (unL b o t = l) := hl
          have HLN := Lib.hid hln
          have HC : Hid (unC b o t = clashTo l n) := by show clashTo _ _ = _; rw [HL.out, hln]
          have HED : Hid (edgs l) := hown.2
          have HOW := Lib.hid hown
          have HFW := Lib.hid hF
          have HRW := Lib.hid hr
          obtain ⟨hnc, hcc⟩ := hown.rd.bd
          clear hl hn e1 hln hown hF hr hbs HN2
          go_wp2_with fail
          go_loopw [14, 16, 18, 69] (fun s14 _ _ i wr => ∃ q : Nat, q ≤ n ∧ i = .int .i64 q ∧ s14 = .int .u32 (clashTo l q) ∧ OwnE wr r A n c l ∧ OfFr w wr (.slice Ab nb cb) (.slice Ab' nb' cb') (.slice Ao no co) (.slice Ao' no' co') (.slice At nt ct) (.slice At' nt' ct')) (fun _ _ _ i _ => n - (intOf i).toNat)
          case atStart => exact ⟨0, by omega, rfl, rfl, HOW.out, HFW.out⟩
          case round =>
            clear HOW HFW
            obtain ⟨q, hq, rfl, rfl, hown, hF⟩ := hrel
            by_cases hlt3 : q < n
            · obtain ⟨ad, x, rfl, hbl, hx, hxb, hc1, hc2, hc3⟩ := hown.rd.at_ hlt3
              have HCK : Hid (clashTo l (q + 1) = inT (clashTo l q) x.1 (decide (x.1 ∈ idsTo l q))) := clash_inT hx
              have hcb := clashTo_ok HED.out q
              obtain ⟨C0, hC0⟩ : ∃ C0, clashTo l q = C0 := ⟨_, rfl⟩
              rw [hC0] at HCK hcb ⊢
              have HCB := Lib.hid hcb
              have hb1 := (Below.refl wr.heap.size wr).alloc (Nat.le_refl _) (.cells #[.int .u32 x.1, .int .u32 x.2.1, .int .u32 x.2.2] 39)
              have HFX := Lib.hid (hF.on hb1)
              have HOX := Lib.hid (hown.alloc (.cells #[.int .u32 x.1, .int .u32 x.2.1, .int .u32 x.2.2] 39))
              have HZX := Lib.hid (Blk.new wr 39 #[.int .u32 x.1, .int .u32 x.2.1, .int .u32 x.2.2])
              obtain ⟨gx, hgx⟩ : ∃ gx, wr.heap.size = gx := ⟨_, rfl⟩
              have HI0 : Hid (inT C0 x.1 false = C0 ∧ false = decide (x.1 ∈ idsTo l 0)) := ⟨inT_no _ _, by simp [idsTo]⟩
              clear hx hown hF hb1 hC0 hcb
              go_wp2_with fail
              rw [hgx] at HZX
              clear hgx
              go_loopw [14, 18, 78] (fun s14 _ i wr => ∃ (j : Nat) (bb : Bool), j ≤ q ∧ i = .int .i64 j ∧ s14 = .int .u32 (inT C0 x.1 bb) ∧ Hid (bb = decide (x.1 ∈ idsTo l j)) ∧ OwnE wr r (some ad) n c l ∧ Blk wr gx 39 #[.int .u32 x.1, .int .u32 x.2.1, .int .u32 x.2.2] ∧ OfFr w wr (.slice Ab nb cb) (.slice Ab' nb' cb') (.slice Ao no co) (.slice Ao' no' co') (.slice At nt ct) (.slice At' nt' ct')) (fun _ _ i _ => q - (intOf i).toNat)
              case atStart => exact ⟨0, false, by omega, rfl, by rw [HI0.out.1], HI0.out.2, HOX.out, HZX.out, HFX.out⟩
              case round =>
                clear HI0 HOX HZX HFX
                obtain ⟨j, bb, hj, rfl, rfl, HBB, hown, hZ, hF⟩ := hrel
                have htb := inT_ok bb HCB.out hxb.1
                by_cases hlt4 : j < q
                · obtain ⟨ad2, y, hee, hbl2, hy, hyb, hd1, hd2, hd3⟩ := hown.rd.at_ (k := j) (by omega)
                  injection hee with hee
                  subst hee
                  have HIN : Hid (decide (x.1 ∈ idsTo l (j + 1)) = (bb || decide (x.1 = y.1))) := by show _ = _; rw [idsTo_in hy, ← HBB.out]
                  have hjn : (j : Int) < q := by omega
                  have hb1 := (Below.refl wr.heap.size wr).alloc (Nat.le_refl _) (.cells #[.int .u32 y.1, .int .u32 y.2.1, .int .u32 y.2.2] 39)
                  have HFY := Lib.hid (hF.on hb1)
                  have HOY := Lib.hid (hown.alloc (.cells #[.int .u32 y.1, .int .u32 y.2.1, .int .u32 y.2.2] 39))
                  have HZY := Lib.hid (hZ.alloc (.cells #[.int .u32 y.1, .int .u32 y.2.1, .int .u32 y.2.2] 39))
                  obtain ⟨z0, z1, z2⟩ := hZ.c3
                  have hzl := hZ.lt
                  have h5 := inT_hit C0 x.1 bb
                  have h6 := inT_miss C0 x.1 bb
                  have H5 := Lib.hid h5
                  have H6 := Lib.hid h6
                  clear hy hown hF hZ hb1 h5 h6
                  obtain ⟨T, hT⟩ : ∃ T, inT C0 x.1 bb = T := ⟨_, rfl⟩
                  rw [hT] at H5 H6 htb ⊢
                  have HTT := Lib.hid hT
                  clear hT
                  by_cases hxy : x.1 = y.1
                  · have hxy' : (x.1 == y.1) = true := by simp [hxy]
                    have HXY := Lib.hid hxy
                    by_cases hT0 : T = 0
                    · have hT0' : (T == 0) = true := by simp [hT0]
                      have e3 := H5.out (.inl hT0)
                      have E3 := Lib.hid e3
                      clear hT0 e3 hxy
                      go_wp2_with fail
                      go_roundw
                      case rel => exact ⟨j + 1, true, by omega, by go_num, by rw [← E3.out], by show _ = _; rw [HIN.out, decide_eq_true HXY.out]; simp, HOY.out, HZY.out, HFY.out⟩
                      case measure => simp [intOf]; omega
                    · have hT0' : (T == 0) = false := by simp [hT0]
                      have HT0 := Lib.hid hT0
                      clear hT0
                      by_cases hxT : x.1 < T
                      · have e3 := H5.out (.inr hxT)
                        have E3 := Lib.hid e3
                        clear e3 hxy
                        go_wp2_with fail
                        go_roundw
                        case rel => exact ⟨j + 1, true, by omega, by go_num, by rw [← E3.out], by show _ = _; rw [HIN.out, decide_eq_true HXY.out]; simp, HOY.out, HZY.out, HFY.out⟩
                        case measure => simp [intOf]; omega
                      · have hxT' : decide (x.1 < T) = false := by simpa using hxT
                        have e3 : T = inT C0 x.1 true := H6.out (fun h => h.elim HT0.out hxT)
                        have E3 := Lib.hid e3
                        clear e3 hxT hxy
                        go_wp2_with fail
                        go_roundw
                        case rel => exact ⟨j + 1, true, by omega, by go_num, by rw [← E3.out], by show _ = _; rw [HIN.out, decide_eq_true HXY.out]; simp, HOY.out, HZY.out, HFY.out⟩
                        case measure => simp [intOf]; omega
                  · have hxy' : (x.1 == y.1) = false := by simp [hxy]
                    have HXY := Lib.hid hxy
                    clear hxy
                    go_wp2_with fail
                    go_roundw
                    case rel => exact ⟨j + 1, bb, by omega, by go_num, by rw [HTT.out], by show _ = _; rw [HIN.out, decide_eq_false HXY.out]; simp, HOY.out, HZY.out, HFY.out⟩
                    case measure => simp [intOf]; omega
                · obtain rfl : q = j := by omega
                  have HCN : Hid (inT C0 x.1 bb = clashTo l (q + 1)) := by show _ = _; rw [HCK.out, HBB.out]
                  rw [HCN.out]
                  have HO := Lib.hid hown
                  have HF := Lib.hid hF
                  clear hown hF hZ
                  go_wp2_with fail
                  go_roundw
                  case rel => exact ⟨q + 1, by omega, by go_num, rfl, HO.out, HF.out⟩
                  case measure => simp [intOf]; omega
            · obtain rfl : n = q := by omega
              have HF2 := Lib.hid hF
              have HM2 := Lib.hid hown
              have HHR := Lib.hid HRW.out
              clear hF hown HRW
              obtain ⟨C, hC⟩ : ∃ C, clashTo l n = C := ⟨_, rfl⟩
              rw [hC] at HC
              rw [hC]
              by_cases hc : C = 0
              · have hcc : (C != 0) = false := by simp [hc]
                have HC0 : Hid (unC b o t = 0) := by show _ = _; rw [HC.out, hc]
                clear hC hc HC
                obtain ⟨b0, b1⟩ := HF2.out.b.c2
                obtain ⟨o0, o1⟩ := HF2.out.o.c2
                obtain ⟨t0, t1⟩ := HF2.out.t.c2
                have hz2 := HF2.out.size
                have hbs := HF2.out.below
                go_wp2_with fail
                refine (nums_any B _ _ _ _ _ _ _ _ _ b.1 o.1 t.1 _ (hb1.below (hbs.mono hB)) (ho1.below (hbs.mono hB)) (ht1.below (hbs.mono hB)) (by omega) (by omega) (by have := hbs.size; omega)).mono ?_
                rintro e w3 ⟨r3, A3, c3, rfl, p1, p2⟩
                have HF3 := Lib.hid (HF2.out.on p2)
                have HM3 := Lib.hid (HM2.out.below p2 HM2.out.lt)
                have HP3 := Lib.hid p1
                have han : allN b.1 o.1 t.1 ≤ 1000000 := by have := HN1.out; omega
                clear HF2 HM2 b0 b1 o0 o1 t0 t1 hz2 hbs p1 p2
                go_wp2_with fail
                refine (rmake_any _ _ _ _ _ _ _ (allL b.1 o.1 t.1) l _ HP3.out.rd HM3.out.rd han (by omega) (Nat.le_refl _)).mono ?_
                rintro e w4 ⟨r4, A4, c4, r5, A5, c5, rfl, q1, q2, q5, q6, q7⟩
                have HF4 := Lib.hid (HF3.out.on q5)
                obtain ⟨es', hes⟩ : ∃ es', makeTo Prod.fst l n = es' := ⟨_, rfl⟩
                have HE : Hid (unG b o t = es') := by show makeTo _ _ _ = _; rw [HL.out, HLN.out]; exact hes
                rw [hes] at q2
                obtain ⟨V, hV⟩ : ∃ V, makeTo id (allL b.1 o.1 t.1) (allN b.1 o.1 t.1) = V := ⟨_, rfl⟩
                have HVV : Hid (unV b o t = V) := hV
                rw [hV] at q1
                obtain ⟨nV, hnV⟩ : ∃ nV, mkN id (allL b.1 o.1 t.1) (allN b.1 o.1 t.1) = nV := ⟨_, rfl⟩
                obtain ⟨nE, hnE⟩ : ∃ nE, mkN Prod.fst l n = nE := ⟨_, rfl⟩
                rw [hnV] at q1
                rw [hnE] at q2
                rw [hnV, hnE]
                have hel := q2.len
                have hvl := q1.len
                have HNV := Lib.hid hvl
                have HEL := Lib.hid hel
                have HQ1 := Lib.hid q1
                have HQ2 := Lib.hid q2
                have hr4 : ∀ g, r4 = some g → w.heap.size + 4 ≤ g := fun g e => Nat.le_trans HF3.out.size (q6 g e)
                have hr5 : ∀ g, r5 = some g → w.heap.size + 4 ≤ g := fun g e => Nat.le_trans HF3.out.size (q7 g e)
                have hvb := q1.rd.bd
                have heb := q2.rd.bd
                have hF4s := HF4.out.size
                have HF5 := Lib.hid (HF4.out.alloc (.cells #[.slice A4 nV c4, .slice A5 nE c5] 25))
                have HX5 := Lib.hid (Blk.new w4 25 #[.slice A4 nV c4, .slice A5 nE c5])
                have HQ3 := Lib.hid (HQ1.out.alloc (.cells #[.slice A4 nV c4, .slice A5 nE c5] 25))
                have HQ4 := Lib.hid (HQ2.out.alloc (.cells #[.slice A4 nV c4, .slice A5 nE c5] 25))
                clear q1 q2 q5 q6 q7 hes hV hnV hnE hel hvl HF3 HM3 HP3 HF4 HQ1 HQ2
                go_wp2_with fail
                go_loopw [21, 117] (fun _ i wr => ∃ k : Nat, k ≤ nE ∧ i = .int .i64 k ∧ OfFr w wr (.slice Ab nb cb) (.slice Ab' nb' cb') (.slice Ao no co) (.slice Ao' no' co') (.slice At nt ct) (.slice At' nt' ct') ∧ Blk wr w4.heap.size 25 #[.slice A4 nV c4, .slice A5 nE c5] ∧ OwnU wr r4 A4 nV c4 V ∧ OwnE wr r5 A5 nE c5 es' ∧ Hid (dang V (es'.take k) = none)) (fun _ i _ => nE - (intOf i).toNat)
                case atStart => exact ⟨0, by omega, rfl, HF5.out, HX5.out, HQ3.out, HQ4.out, by show _ = _; simp [dang]⟩
                case round =>
                  clear HF5 HX5 HQ3 HQ4
                  obtain ⟨k, hk, rfl, hF, hX, hQV, hQE, hD⟩ := hrel
                  by_cases hlt : k < nE
                  · obtain ⟨ad, x, rfl, hbl, hx, hxb, hc1, hc2, hc3⟩ := hQE.rd.at_ hlt
                    have HX := Lib.hid hx
                    have hb6 := (Below.refl wr.heap.size wr).alloc (Nat.le_refl _) (.cells #[.int .u32 x.1, .int .u32 x.2.1, .int .u32 x.2.2] 39)
                    have HF6 := Lib.hid (hF.on hb6)
                    have HX6 := Lib.hid (hX.below hb6 hX.lt)
                    have hsz := hX.lt
                    have HV6 := Lib.hid (hQV.below hb6 hQV.lt)
                    have HE6 := Lib.hid (hQE.below hb6 hQE.lt)
                    have HZ6 := Lib.hid (Blk.new wr 39 #[.int .u32 x.1, .int .u32 x.2.1, .int .u32 x.2.2])
                    obtain ⟨x0, x1⟩ := hX.c2
                    clear hx hF hX hQV hQE hb6
                    go_wp2_with fail
                    refine (has_any _ _ _ _ V _ x.2.1 _ HV6.out.rd (Nat.le_refl _)).mono ?_
                    rintro e w6 ⟨rfl, B6⟩
                    have hb6 := B6.size
                    simp only [World.size_alloc] at hb6
                    have hF7 := HF6.out.on B6
                    have HF7 := Lib.hid hF7
                    have hX7 := HX6.out.below B6 HX6.out.lt
                    have HX7 := Lib.hid hX7
                    have HV7 := Lib.hid (HV6.out.below B6 HV6.out.lt)
                    have HE7 := Lib.hid (HE6.out.below B6 HE6.out.lt)
                    have hZ7 := HZ6.out.below B6 HZ6.out.lt
                    have HZ7 := Lib.hid hZ7
                    obtain ⟨x0, x1⟩ := hX7.c2
                    obtain ⟨z0, z1, z2⟩ := hZ7.c3
                    have hzl := hZ7.lt
                    have hxl := hX7.lt
                    clear B6 hF7 hX7 hZ7 HF6 HX6 HV6 HE6 HZ6
                    cases hA : hasB V x.2.1
                    · have HA := Lib.hid hA
                      clear hA
                      have hr := HF7.out.r
                      have f0 := hr.frozen 0
                      have f1 := hr.frozen 1
                      obtain ⟨r0, r1⟩ := hr.c2
                      have hrl := hr.lt
                      have HRS : Hid (unR b o t = (([], []), x.1, 27)) := unR_dang HC0.out (by rw [HVV.out, HE.out]; exact dang_hit HX.out hD.out (by simp [okEnds, HA.out]))
                      go_wp2_with fail
                      go_region
                      go_wp2_with fail
                      refine bodyPost_ret (v := .tuple #[.agg #[.slice none 0 0, .slice none 0 0], .int .u32 x.1, .int .i64 27]) (by simp [results, Try.results35, go_sem, r0, r1]) rfl ?_
                      refine ⟨.agg #[.slice none 0 0, .slice none 0 0], by rw [HRS.out], ?_, (HF7.out.below.drew.setCell (by simp; omega) _).setCell (by simp; omega) _⟩
                      rw [HRS.out]
                      exact RdG.nil_ _
                    · have HA := Lib.hid hA
                      clear hA
                      go_wp2_with fail
                      refine (has_any _ _ _ _ V _ x.2.2 _ HV7.out.rd (Nat.le_refl _)).mono ?_
                      rintro e w7 ⟨rfl, B7⟩
                      have hF8 := HF7.out.on B7
                      have HF8 := Lib.hid hF8
                      have hX8 := HX7.out.below B7 HX7.out.lt
                      have HX8 := Lib.hid hX8
                      have HV8 := Lib.hid (HV7.out.below B7 HV7.out.lt)
                      have HE8 := Lib.hid (HE7.out.below B7 HE7.out.lt)
                      have hZ8 := HZ7.out.below B7 HZ7.out.lt
                      have HZ8 := Lib.hid hZ8
                      obtain ⟨x0, x1⟩ := hX8.c2
                      obtain ⟨z0, z1, z2⟩ := hZ8.c3
                      have hzl := hZ8.lt
                      have hxl := hX8.lt
                      clear B7 hF8 hX8 hZ8 HF7 HX7 HV7 HE7 HZ7
                      cases hA2 : hasB V x.2.2
                      · have HA2 := Lib.hid hA2
                        clear hA2
                        have hr := HF8.out.r
                        have f0 := hr.frozen 0
                        have f1 := hr.frozen 1
                        obtain ⟨r0, r1⟩ := hr.c2
                        have hrl := hr.lt
                        have HRS : Hid (unR b o t = (([], []), x.1, 27)) := unR_dang HC0.out (by rw [HVV.out, HE.out]; exact dang_hit HX.out hD.out (by simp [okEnds, HA2.out]))
                        go_wp2_with fail
                        go_region
                        go_wp2_with fail
                        refine bodyPost_ret (v := .tuple #[.agg #[.slice none 0 0, .slice none 0 0], .int .u32 x.1, .int .i64 27]) (by simp [results, Try.results35, go_sem, r0, r1]) rfl ?_
                        refine ⟨.agg #[.slice none 0 0, .slice none 0 0], by rw [HRS.out], ?_, (HF8.out.below.drew.setCell (by simp; omega) _).setCell (by simp; omega) _⟩
                        rw [HRS.out]
                        exact RdG.nil_ _
                      · have HA2 := Lib.hid hA2
                        clear hA2
                        go_wp2_with fail
                        go_roundw
                        case rel => exact ⟨k + 1, by omega, by go_num, HF8.out, HX8.out, HV8.out, HE8.out, by show _ = _; exact dang_take HX.out hD.out (by simp [okEnds, HA.out, HA2.out])⟩
                        case measure => simp [intOf]; omega
                  · obtain rfl : k = nE := by omega
                    have HDN : Hid (dang (unV b o t) (unG b o t) = none) := by
                      show _ = _
                      rw [HVV.out, HE.out]
                      have := hD.out
                      rwa [List.take_of_length_le (by rw [HEL.out]; exact Nat.le_refl _)] at this
                    have hr := hF.r
                    have f0 := hr.frozen 0
                    have f1 := hr.frozen 1
                    obtain ⟨r0, r1⟩ := hr.c2
                    obtain ⟨x0, x1⟩ := hX.c2
                    have hrl := hr.lt
                    have hxl := hX.lt
                    have hFs := hF.size
                    have HF := Lib.hid hF
                    have HQV := Lib.hid hQV
                    have HQE := Lib.hid hQE
                    clear hF hQV hQE hX hr
                    by_cases h64 : 64 < nV
                    · have h64' : (64 : Int) < nV := by omega
                      have HRS : Hid (unR b o t = (([], []), 0, 6)) := unR_many HC0.out HDN.out (by rw [HVV.out, HE.out, HNV.out, HEL.out]; omega)
                      go_wp2_with fail
                      refine bodyPost_ret (v := .tuple #[.agg #[.slice none 0 0, .slice none 0 0], .int .u32 0, .int .i64 6]) (by simp [results, Try.results35, go_sem, r0, r1]) rfl ?_
                      refine ⟨.agg #[.slice none 0 0, .slice none 0 0], by rw [HRS.out], ?_, (HF.out.below.setCell (by simp; omega) _).setCell (by simp; omega) _⟩
                      rw [HRS.out]
                      exact RdG.nil_ _
                    · have h64' : decide ((64 : Int) < nV) = false := by simp; omega
                      by_cases h160 : 160 < k
                      · have h160' : (160 : Int) < k := by omega
                        have HRS : Hid (unR b o t = (([], []), 0, 6)) := unR_many HC0.out HDN.out (by rw [HVV.out, HE.out, HNV.out, HEL.out]; omega)
                        go_wp2_with fail
                        refine bodyPost_ret (v := .tuple #[.agg #[.slice none 0 0, .slice none 0 0], .int .u32 0, .int .i64 6]) (by simp [results, Try.results35, go_sem, r0, r1]) rfl ?_
                        refine ⟨.agg #[.slice none 0 0, .slice none 0 0], by rw [HRS.out], ?_, (HF.out.below.setCell (by simp; omega) _).setCell (by simp; omega) _⟩
                        rw [HRS.out]
                        exact RdG.nil_ _
                      · have h160' : decide ((160 : Int) < k) = false := by simp; omega
                        have HRS : Hid (unR b o t = ((V, es'), 0, 0)) := by
                          have := unR_all HC0.out HDN.out (by rw [HVV.out, HNV.out]; omega) (by rw [HE.out, HEL.out]; omega)
                          rw [HVV.out, HE.out] at this
                          exact this
                        go_wp2_with fail
                        refine bodyPost_ret (v := .tuple #[.agg #[.slice A4 nV c4, .slice A5 k c5], .int .u32 0, .int .i64 0]) (by simp [results, Try.results35, go_sem, r0, r1]) rfl ?_
                        refine ⟨.agg #[.slice A4 nV c4, .slice A5 k c5], by rw [HRS.out], ?_, (HF.out.below.setCell (by simp; omega) _).setCell (by simp; omega) _⟩
                        rw [HRS.out]
                        exact ⟨A4, nV, c4, A5, k, c5, rfl, ((HQV.out.setCell_far (fun g e => by have := hr4 g e; simp; omega) _).setCell_far (fun g e => by have := hr4 g e; simp; omega) _).rd, ((HQE.out.setCell_far (fun g e => by have := hr5 g e; simp; omega) _).setCell_far (fun g e => by have := hr5 g e; simp; omega) _).rd⟩
              · have hcc : (C != 0) = true := by simp [hc]
                have hr := HF2.out.r
                have f0 := hr.frozen 0
                have f1 := hr.frozen 1
                obtain ⟨r0, r1⟩ := hr.c2
                have hrl := hr.lt
                have HRS : Hid (unR b o t = (([], []), C, 26)) := by
                  have h := HC.out
                  have q := unR_clash (b := b) (o := o) (t := t) (by rw [h]; exact hc)
                  rw [h] at q
                  exact q
                go_wp2_with fail
                refine bodyPost_ret (v := .tuple #[.agg #[.slice none 0 0, .slice none 0 0], .int .u32 C, .int .i64 26]) (by simp [results, Try.results35, go_sem, r0, r1]) rfl ?_
                refine ⟨.agg #[.slice none 0 0, .slice none 0 0], by rw [HRS.out], ?_, (HF2.out.below.setCell (by simp; omega) _).setCell (by simp; omega) _⟩
                rw [HRS.out]
                exact RdG.nil_ _
end Go.Proofs.Ytklmckbpbloonaa

namespace Go.Proofs.Ytklmckbpbloonaa
open Go.RowKit

def sameG (g h : Gph) : Bool := decide (g = h)
theorem sameG_self (g : Gph) : sameG g g = true := by simp [sameG]
theorem sameG_ne {g h : Gph} (hn : g ≠ h) : sameG g h = false := by simp [sameG, hn]
theorem list_ext {α : Type} {xs ys : List α} {n : Nat} (h1 : xs.length = n) (h2 : ys.length = n) (h : ∀ j, j < n → xs[j]? = ys[j]?) : xs = ys := by
  refine List.ext_getElem? fun j => ?_
  by_cases hj : j < n
  · exact h j hj
  · rw [List.getElem?_eq_none (by omega), List.getElem?_eq_none (by omega)]
set_option maxRecDepth 100000 in
set_option maxHeartbeats 4000000 in
theorem rsameG_any (B : Nat) (va vb : Value) (a b : Gph) (w : World) (ha : RdG w B va a) (hb : RdG w B vb b) (hB : B ≤ w.heap.size) :
    Calls Try.prog 36 #[va, vb] w fun e w' => e = .returned (.bool (sameG a b)) ∧ Below w.heap.size w w' := by
  obtain ⟨A1, n1, c1, A2, n2, c2, rfl, a1, a2⟩ := ha
  obtain ⟨B1, m1, d1, B2, m2, d2, rfl, b1, b2⟩ := hb
  have la1 := a1.len
  have la2 := a2.len
  have lb1 := b1.len
  have lb2 := b2.len
  obtain ⟨k1, k2⟩ := a1.bd
  obtain ⟨k3, k4⟩ := a2.bd
  obtain ⟨k5, k6⟩ := b1.bd
  obtain ⟨k7, k8⟩ := b2.bd
  have HB0 := Lib.hid (((Below.refl w.heap.size w).alloc (Nat.le_refl _) (.cells #[.slice A1 n1 c1, .slice A2 n2 c2] 25)).alloc (by simp) (.cells #[.slice B1 m1 d1, .slice B2 m2 d2] 25))
  have HX0 := Lib.hid ((Blk.new w 25 #[.slice A1 n1 c1, .slice A2 n2 c2]).alloc (.cells #[.slice B1 m1 d1, .slice B2 m2 d2] 25))
  have hY0 := Blk.new (w.alloc (.cells #[.slice A1 n1 c1, .slice A2 n2 c2] 25)) 25 #[.slice B1 m1 d1, .slice B2 m2 d2]
  simp only [World.size_alloc] at hY0
  have HY0 := Lib.hid hY0
  clear hY0
  by_cases e1 : n1 = m1
  · by_cases e2 : n2 = m2
    · subst e1
      subst e2
      have q1 : ((n1 : Int) != n1) = false := by simp
      have q2 : ((n2 : Int) != n2) = false := by simp
      have HA1 := Lib.hid la1
      have HA2 := Lib.hid la2
      have HL1 := Lib.hid lb1
      have HL2 := Lib.hid lb2
      clear la1 la2 lb1 lb2
      go_enter Try.func36, Try.ntmps36
      go_wp2_with fail
      go_loopw [26] (fun i wr => ∃ k : Nat, k ≤ n1 ∧ i = .int .i64 k ∧ Hid (∀ j, j < k → a.1[j]? = b.1[j]?) ∧ Below w.heap.size w wr ∧ Blk wr w.heap.size 25 #[.slice A1 n1 c1, .slice A2 n2 c2] ∧ Blk wr (w.heap.size + 1) 25 #[.slice B1 n1 d1, .slice B2 n2 d2]) (fun i _ => n1 - (intOf i).toNat)
      case atStart => exact ⟨0, by omega, rfl, fun j hj => absurd hj (by omega), HB0.out, HX0.out, HY0.out⟩
      case round =>
        clear HB0 HX0 HY0
        obtain ⟨k, hk, rfl, HJ, hbr, hX, hY⟩ := hrel
        obtain ⟨x0, x1⟩ := hX.c2
        obtain ⟨y0, y1⟩ := hY.c2
        have hxl := hX.lt
        have hyl := hY.lt
        by_cases hlt : k < n1
        · obtain ⟨ad, x, rfl, _, hx, _, hcell⟩ := (a1.below (hbr.mono hB)).at_ hlt
          obtain ⟨ad', y, rfl, _, hy, _, hcell'⟩ := (b1.below (hbr.mono hB)).at_ hlt
          have HX := Lib.hid hx
          have HY := Lib.hid hy
          have b1' : (k : Int) < n1 := by omega
          clear hx hy
          by_cases he : x = y
          · have he' : (x != y) = false := by simp [he]
            have HE := Lib.hid he
            clear he
            go_wp2_with fail
            go_quiet (fail)
            go_wp2_with fail
            go_roundw
            case rel =>
              refine ⟨k + 1, by omega, by go_num, fun j hj => ?_, below_drewN hbr _, hX.drewN _, hY.drewN _⟩
              by_cases e : j = k
              · subst e; rw [HX.out, HY.out, HE.out]
              · exact HJ.out j (by omega)
            case measure => simp [intOf]; omega
          · have he' : (x != y) = true := by simp [he]
            have HE := Lib.hid he
            clear he
            go_wp2_with fail
            go_quiet (fail)
            go_wp2_with fail
            go_ret
            refine ⟨ret_bool (sameG_ne fun e => HE.out ?_).symm, below_drewN hbr _⟩
            have h1 := HX.out
            have h2 := HY.out
            rw [e, h2] at h1
            injection h1 with h1
            exact h1.symm
        · obtain rfl : n1 = k := by omega
          have HV : Hid (a.1 = b.1) := list_ext HA1.out HL1.out HJ.out
          have HB1 := Lib.hid hbr
          have HX1 := Lib.hid hX
          have HY1 := Lib.hid hY
          clear hbr hX hY HJ
          go_wp2_with fail
          go_loopw [44] (fun i wr => ∃ k : Nat, k ≤ n2 ∧ i = .int .i64 k ∧ Hid (∀ j, j < k → a.2[j]? = b.2[j]?) ∧ Below w.heap.size w wr ∧ Blk wr w.heap.size 25 #[.slice A1 n1 c1, .slice A2 n2 c2] ∧ Blk wr (w.heap.size + 1) 25 #[.slice B1 n1 d1, .slice B2 n2 d2]) (fun i _ => n2 - (intOf i).toNat)
          case atStart => exact ⟨0, by omega, rfl, fun j hj => absurd hj (by omega), HB1.out, HX1.out, HY1.out⟩
          case round =>
            clear HB1 HX1 HY1 x0 x1 y0 y1
            obtain ⟨k, hk, rfl, HJ, hbr, hX, hY⟩ := hrel
            obtain ⟨x0, x1⟩ := hX.c2
            obtain ⟨y0, y1⟩ := hY.c2
            have hxl := hX.lt
            have hyl := hY.lt
            by_cases hlt : k < n2
            · obtain ⟨ad, x, rfl, _, hx, _, hc0, hc1, hc2⟩ := (a2.below (hbr.mono hB)).at_ hlt
              obtain ⟨ad', y, rfl, _, hy, _, hd0, hd1, hd2⟩ := (b2.below (hbr.mono hB)).at_ hlt
              have HX := Lib.hid hx
              have HY := Lib.hid hy
              have b1' : (k : Int) < n2 := by omega
              clear hx hy
              by_cases he : x = y
              · subst he
                go_wp2_with fail
                go_quiet (fail)
                go_wp2_with fail
                go_roundw
                case rel =>
                  refine ⟨k + 1, by omega, by go_num, fun j hj => ?_, below_drewN hbr _, hX.drewN _, hY.drewN _⟩
                  by_cases e : j = k
                  · subst e; rw [HX.out, HY.out]
                  · exact HJ.out j (by omega)
                case measure => simp [intOf]; omega
              · have HE := Lib.hid he
                have e' : ¬ (x.1 = y.1 ∧ x.2.1 = y.2.1 ∧ x.2.2 = y.2.2) := fun h => he (Prod.ext h.1 (Prod.ext h.2.1 h.2.2))
                clear he
                have HR : Hid (sameG a b = false) := sameG_ne fun e => HE.out (by
                  have h1 := HX.out
                  have h2 := HY.out
                  rw [e, h2] at h1
                  injection h1 with h1
                  exact h1.symm)
                by_cases d1 : x.1 = y.1
                · by_cases d2 : x.2.1 = y.2.1
                  · have d3 : ¬ x.2.2 = y.2.2 := fun h => e' ⟨d1, d2, h⟩
                    clear e'
                    go_wp2_with fail
                    go_quiet (fail)
                    go_wp2_with fail
                    go_ret
                    exact ⟨ret_bool HR.out.symm, below_drewN hbr _⟩
                  · clear e'
                    go_wp2_with fail
                    go_quiet (fail)
                    go_wp2_with fail
                    go_ret
                    exact ⟨ret_bool HR.out.symm, below_drewN hbr _⟩
                · clear e'
                  go_wp2_with fail
                  go_quiet (fail)
                  go_wp2_with fail
                  go_ret
                  exact ⟨ret_bool HR.out.symm, below_drewN hbr _⟩
            · obtain rfl : n2 = k := by omega
              have HE : Hid (a.2 = b.2) := list_ext HA2.out HL2.out HJ.out
              go_wp2_with fail
              go_ret
              exact ⟨ret_bool (by rw [show a = b from Prod.ext HV.out HE.out, sameG_self]), hbr⟩
    · have q1 : ((n1 : Int) != m1) = false := by simp [e1]
      have q2 : ((n2 : Int) != m2) = true := by rw [bne_iff_ne]; omega
      have HR : Hid (sameG a b = false) := sameG_ne fun e => e2 (by rw [← la2, ← lb2, e])
      clear e1 e2
      go_enter Try.func36, Try.ntmps36
      go_wp2_with fail
      go_ret
      exact ⟨ret_bool HR.out.symm, HB0.out⟩
  · have q1 : ((n1 : Int) != m1) = true := by rw [bne_iff_ne]; omega
    have HR : Hid (sameG a b = false) := sameG_ne fun e => e1 (by rw [← la1, ← lb1, e])
    clear e1
    go_enter Try.func36, Try.ntmps36
    go_wp2_with fail
    go_ret
    exact ⟨ret_bool HR.out.symm, HB0.out⟩
end Go.Proofs.Ytklmckbpbloonaa

namespace Go.Proofs.Ytklmckbpbloonaa
open Go.RowKit

/-- The blocks of the law's own: the three graphs. -/
structure LwFr (w w' : World) (b1 b2 o1 o2 t1 t2 : Value) : Prop where
  b : Blk w' w.heap.size 25 #[b1, b2]
  o : Blk w' (w.heap.size + 1) 25 #[o1, o2]
  t : Blk w' (w.heap.size + 2) 25 #[t1, t2]
  below : Below w.heap.size w w'
  size : w.heap.size + 3 ≤ w'.heap.size
section
variable {w w' w'' : World} {b1 b2 o1 o2 t1 t2 : Value}
theorem LwFr.on (h : LwFr w w' b1 b2 o1 o2 t1 t2) (hb : Below w'.heap.size w' w'') : LwFr w w'' b1 b2 o1 o2 t1 t2 :=
  ⟨h.b.below hb h.b.lt, h.o.below hb h.o.lt, h.t.below hb h.t.lt, h.below.trans (hb.mono h.below.size), by have := h.size; have := hb.size; omega⟩
theorem LwFr.alloc (h : LwFr w w' b1 b2 o1 o2 t1 t2) (x : Obj) : LwFr w (w'.alloc x) b1 b2 o1 o2 t1 t2 := h.on ((Below.refl _ _).alloc (Nat.le_refl _) x)
theorem LwFr.first (w : World) (b1 b2 o1 o2 t1 t2 : Value) : LwFr w (((w.alloc (.cells #[b1, b2] 25)).alloc (.cells #[o1, o2] 25)).alloc (.cells #[t1, t2] 25)) b1 b2 o1 o2 t1 t2 := by
  have q1 := Blk.new (w.alloc (.cells #[b1, b2] 25)) 25 #[o1, o2]
  have q2 := Blk.new ((w.alloc (.cells #[b1, b2] 25)).alloc (.cells #[o1, o2] 25)) 25 #[t1, t2]
  simp only [World.size_alloc] at q1 q2
  exact ⟨((Blk.new w _ _).alloc _).alloc _, q1.alloc _, q2, (((Below.refl _ w).alloc (Nat.le_refl _) _).alloc (by simp) _).alloc (by simp; omega) _, by simp⟩
end
/-- A graph that the laws of layer 18 go through. -/
def okG (g : Gph) : Prop := gcheck g.1 g.2 = 0 ∧ g.2.length ≤ 60
theorem okG.fit {g : Gph} (h : okG g) : Fit g.1 g.2 := gcheck_zero h.1
theorem okG.l1 {g : Gph} (h : okG g) : g.1.length ≤ 1000 := by have := h.fit.nv; omega
theorem okG.l2 {g : Gph} (h : okG g) : g.2.length ≤ 1000 := by have := h.2; omega
/-- Of three graphs in a row the k-th. -/
theorem three_at {w : World} {B gs : Nat} {b o t : Gph} {Ab Ab' Ao Ao' At At' : Option Addr} {nb cb nb' cb' no co no' co' nt ct nt' ct' : Nat}
    (h : Blk w gs 25 #[.slice Ab nb cb, .slice Ab' nb' cb', .slice Ao no co, .slice Ao' no' co', .slice At nt ct, .slice At' nt' ct'])
    (hb1 : RdU w B Ab nb cb b.1) (hb2 : RdE w B Ab' nb' cb' b.2) (ho1 : RdU w B Ao no co o.1) (ho2 : RdE w B Ao' no' co' o.2) (ht1 : RdU w B At nt ct t.1) (ht2 : RdE w B At' nt' ct' t.2) {k : Nat} (hk : k < 3) :
    ∃ A n c A' n' c' g, w.cell? ⟨gs, k * 2, none⟩ = some (.slice A n c) ∧ w.cell? ⟨gs, k * 2 + 1, none⟩ = some (.slice A' n' c') ∧ RdU w B A n c g.1 ∧ RdE w B A' n' c' g.2 ∧ [b, o, t][k]? = some g := by
  rcases (show k = 0 ∨ k = 1 ∨ k = 2 by omega) with rfl | rfl | rfl
  · exact ⟨_, _, _, _, _, _, b, h.cell 0, h.cell 1, hb1, hb2, rfl⟩
  · exact ⟨_, _, _, _, _, _, o, h.cell 2, h.cell 3, ho1, ho2, rfl⟩
  · exact ⟨_, _, _, _, _, _, t, h.cell 4, h.cell 5, ht1, ht2, rfl⟩
set_option maxRecDepth 100000 in
set_option maxHeartbeats 4000000 in
theorem unionOf_any (vb vo vt : Value) (b o t : Gph) (w : World) (hb : RdG w w.heap.size vb b) (ho : RdG w w.heap.size vo o) (ht : RdG w w.heap.size vt t) :
    Calls Try.prog 6 #[vb, vo, vt] w fun e w' => e = .returned (.bool true) ∧ Below w.heap.size w w' := by
  obtain ⟨Ab, nb, cb, Ab', nb', cb', rfl, hb1, hb2⟩ := hb
  obtain ⟨Ao, no, co, Ao', no', co', rfl, ho1, ho2⟩ := ho
  obtain ⟨At, nt, ct, At', nt', ct', rfl, ht1, ht2⟩ := ht
  have HF0 := Lib.hid (LwFr.first w (.slice Ab nb cb) (.slice Ab' nb' cb') (.slice Ao no co) (.slice Ao' no' co') (.slice At nt ct) (.slice At' nt' ct'))
  have HRD : Hid (∀ W : World, Below w.heap.size w W → RdU W w.heap.size Ab nb cb b.1 ∧ RdE W w.heap.size Ab' nb' cb' b.2 ∧ RdU W w.heap.size Ao no co o.1 ∧ RdE W w.heap.size Ao' no' co' o.2 ∧ RdU W w.heap.size At nt ct t.1 ∧ RdE W w.heap.size At' nt' ct' t.2) :=
    fun W h => ⟨hb1.below h, hb2.below h, ho1.below h, ho2.below h, ht1.below h, ht2.below h⟩
  clear hb1 hb2 ho1 ho2 ht1 ht2
  go_enter Try.func6, Try.ntmps6
  go_wp2_with fail
  refine (awake18 _).mono ?_
  rintro e w1 ⟨rfl, k1⟩
  have HF1 := Lib.hid (HF0.out.on k1)
  obtain ⟨b0, b1⟩ := HF1.out.b.c2
  obtain ⟨o0, o1⟩ := HF1.out.o.c2
  obtain ⟨t0, t1⟩ := HF1.out.t.c2
  have hz1 := HF1.out.size
  have HG := Lib.hid (Blk.new w1 25 #[.slice Ab nb cb, .slice Ab' nb' cb', .slice Ao no co, .slice Ao' no' co', .slice At nt ct, .slice At' nt' ct'])
  have HF2 := Lib.hid (HF1.out.alloc (.cells #[.slice Ab nb cb, .slice Ab' nb' cb', .slice Ao no co, .slice Ao' no' co', .slice At nt ct, .slice At' nt' ct'] 25))
  clear k1 HF0 HF1
  go_wp2_with fail
  go_loopw [8, 22] (fun _ i wr => ∃ k : Nat, k ≤ 3 ∧ i = .int .i64 k ∧ Hid (∀ j g, j < k → [b, o, t][j]? = some g → okG g) ∧ LwFr w wr (.slice Ab nb cb) (.slice Ab' nb' cb') (.slice Ao no co) (.slice Ao' no' co') (.slice At nt ct) (.slice At' nt' ct') ∧ Blk wr w1.heap.size 25 #[.slice Ab nb cb, .slice Ab' nb' cb', .slice Ao no co, .slice Ao' no' co', .slice At nt ct, .slice At' nt' ct']) (fun _ i _ => 3 - (intOf i).toNat)
  case atStart => exact ⟨0, by omega, rfl, fun j g hj => absurd hj (by omega), HF2.out, HG.out⟩
  case round =>
    clear HF2 HG b0 b1 o0 o1 t0 t1
    obtain ⟨k, hk, rfl, HJ, hF, hG⟩ := hrel
    by_cases hlt : k < 3
    · obtain ⟨r1, r2, r3, r4, r5, r6⟩ := HRD.out wr hF.below
      obtain ⟨A, n, c, A', n', c', g, h0, h1, h2, h3, hg⟩ := three_at hG r1 r2 r3 r4 r5 r6 hlt
      have hgl := hG.lt
      have hlt' : (k : Int) < 3 := by omega
      have HR2 := Lib.hid h2
      have HR3 := Lib.hid h3
      have HGG := Lib.hid hg
      have hB1 := (Below.refl wr.heap.size wr).alloc (Nat.le_refl _) (.cells #[.slice A n c, .slice A' n' c'] 25)
      have HF3 := Lib.hid (hF.on hB1)
      have HG3 := Lib.hid (hG.below hB1 hgl)
      have HX3 := Lib.hid (Blk.new wr 25 #[.slice A n c, .slice A' n' c'])
      have HB3 := Lib.hid hB1
      have hbl := hF.below.size
      have hlen := h3.len
      have HLEN := Lib.hid hlen
      clear r1 r2 r3 r4 r5 r6 h2 h3 hg hF hG hB1 hlen
      go_wp2_with fail
      refine (rcheck_any w.heap.size _ _ _ _ _ _ g.1 g.2 _ (HR2.out.below (HB3.out.mono hbl)) (HR3.out.below (HB3.out.mono hbl)) (by simp; omega)).mono ?_
      rintro e w2 ⟨rfl, k2⟩
      have HF4 := Lib.hid (HF3.out.on k2)
      have HG4 := Lib.hid (HG3.out.below k2 HG3.out.lt)
      have hX4 := HX3.out.below k2 HX3.out.lt
      obtain ⟨x0, x1⟩ := hX4.c2
      have hxl := hX4.lt
      clear k2 hX4 HF3 HG3 HX3 HB3 h0 h1
      by_cases hgc : gcheck g.1 g.2 = 0
      · have hgc' : (gcheck g.1 g.2 != 0) = false := by simp [hgc]
        have HGC := Lib.hid hgc
        rw [hgc]
        by_cases h60 : 60 < n'
        · have h60' : (60 : Int) < n' := by omega
          clear hgc hgc'
          go_wp2_with fail
          go_ret
          exact ⟨rfl, HF4.out.below⟩
        · have h60' : decide ((60 : Int) < n') = false := by simp; omega
          clear hgc hgc'
          go_wp2_with fail
          go_roundw
          case rel =>
            refine ⟨k + 1, by omega, by go_num, fun j g' hj hg' => ?_, HF4.out, HG4.out⟩
            by_cases e : j = k
            · rw [e, HGG.out] at hg'
              injection hg' with hg'
              rw [← hg']
              exact ⟨HGC.out, by rw [HLEN.out]; omega⟩
            · exact HJ.out j g' (by omega) hg'
          case measure => simp [intOf]; omega
      · have hgc' : (gcheck g.1 g.2 != 0) = true := by simp [hgc]
        clear hgc
        go_wp2_with fail
        go_ret
        exact ⟨rfl, HF4.out.below⟩
    · obtain rfl : k = 3 := by omega
      have HOB : Hid (okG b) := HJ.out 0 b (by omega) rfl
      have HOO : Hid (okG o) := HJ.out 1 o (by omega) rfl
      have HOT : Hid (okG t) := HJ.out 2 t (by omega) rfl
      obtain ⟨b0, b1⟩ := hF.b.c2
      obtain ⟨o0, o1⟩ := hF.o.c2
      obtain ⟨t0, t1⟩ := hF.t.c2
      have hFs := hF.size
      have HF5 := Lib.hid hF
      clear HJ hF hG
      go_wp2_with fail
      obtain ⟨r1, r2, r3, r4, r5, r6⟩ := HRD.out _ HF5.out.below
      refine (uof_any w.heap.size _ _ _ b o t _ ⟨_, _, _, _, _, _, rfl, r1, r2⟩ ⟨_, _, _, _, _, _, rfl, r3, r4⟩ ⟨_, _, _, _, _, _, rfl, r5, r6⟩ HF5.out.below.size (unL_ids HOO.out.fit HOT.out.fit) HOO.out.l1 HOT.out.l1 HOO.out.l2 HOT.out.l2).mono ?_
      rintro e w2 ⟨gv, rfl, ⟨A, n, c, A', n', c', rfl, p1, p2⟩, k2⟩
      have hF6 := HF5.out.on k2
      have HF6 := Lib.hid (hF6.alloc (.cells #[.slice A n c, .slice A' n' c'] 25))
      have hB6 := (Below.refl w2.heap.size w2).alloc (Nat.le_refl _) (.cells #[.slice A n c, .slice A' n' c'] 25)
      have HP1 := Lib.hid (p1.below hB6)
      have HP2 := Lib.hid (p2.below hB6)
      have HX6 := Lib.hid (Blk.new w2 25 #[.slice A n c, .slice A' n' c'])
      obtain ⟨b0, b1⟩ := hF6.b.c2
      obtain ⟨o0, o1⟩ := hF6.o.c2
      obtain ⟨t0, t1⟩ := hF6.t.c2
      have hFs := hF6.size
      have l0 := hF6.b.lt
      have l1 := hF6.o.lt
      have l2 := hF6.t.lt
      clear r1 r2 r3 r4 r5 r6 p1 p2 hF6 hB6 k2 HF5
      obtain ⟨RG, hRG⟩ : ∃ RG, (unR b o t).1 = RG := ⟨_, rfl⟩
      obtain ⟨RI, hRI⟩ : ∃ RI, (unR b o t).2.1 = RI := ⟨_, rfl⟩
      obtain ⟨RN, hRN⟩ : ∃ RN, (unR b o t).2.2 = RN := ⟨_, rfl⟩
      have HFIT : Hid (RN = 0 → gcheck RG.1 RG.2 = 0) := fun h => by
        have := unR_fit (b := b) HOO.out.fit HOT.out.fit (hRN.trans h)
        rwa [hRG] at this
      have HRR : Hid ((unR b o t).1 = RG ∧ (unR b o t).2.1 = RI ∧ (unR b o t).2.2 = RN) := ⟨hRG, hRI, hRN⟩
      rw [hRG] at HP1 HP2
      rw [hRI, hRN]
      clear hRG hRI hRN
      go_wp2_with fail
      obtain ⟨r1, r2, r3, r4, r5, r6⟩ := HRD.out _ HF6.out.below
      refine (rof_any w.heap.size _ _ _ b o t _ ⟨_, _, _, _, _, _, rfl, r1, r2⟩ ⟨_, _, _, _, _, _, rfl, r3, r4⟩ ⟨_, _, _, _, _, _, rfl, r5, r6⟩ HF6.out.below.size HOO.out.l1 HOT.out.l1 HOO.out.l2 HOT.out.l2).mono ?_
      rintro e w3 ⟨gv, rfl, ⟨D, m, d, D', m', d', rfl, q1, q2⟩, k3⟩
      rw [HRR.out.1] at q1 q2
      rw [HRR.out.2.1, HRR.out.2.2]
      have hF7 := HF6.out.on k3
      have HX7 := Lib.hid ((HX6.out.below k3 HX6.out.lt).alloc (.cells #[.slice D m d, .slice D' m' d'] 25))
      have HY7 := Lib.hid (Blk.new w3 25 #[.slice D m d, .slice D' m' d'])
      have hB7 := (Below.refl w3.heap.size w3).alloc (Nat.le_refl _) (.cells #[.slice D m d, .slice D' m' d'] 25)
      have HF7 := Lib.hid (hF7.on hB7)
      have hk3 := k3.size
      simp only [World.size_alloc] at hk3
      have HP3 := Lib.hid (((HP1.out.below (k3.mono (by simp))).more (by omega : w2.heap.size ≤ w3.heap.size)).below hB7)
      have HP4 := Lib.hid (((HP2.out.below (k3.mono (by simp))).more (by omega : w2.heap.size ≤ w3.heap.size)).below hB7)
      have HQ3 := Lib.hid (q1.below hB7)
      have HQ4 := Lib.hid (q2.below hB7)
      have hxl7 := (HX6.out.below k3 HX6.out.lt).lt
      obtain ⟨x0, x1⟩ := (HX6.out.below k3 HX6.out.lt).c2
      clear r1 r2 r3 r4 r5 r6 q1 q2 hF7 hB7 k3 HF6 HX6 HP1 HP2 b0 b1 o0 o1 t0 t1
      go_wp2_with fail
      refine (rsameG_any w3.heap.size _ _ RG RG _ ⟨_, _, _, _, _, _, rfl, HP3.out, HP4.out⟩ ⟨_, _, _, _, _, _, rfl, HQ3.out, HQ4.out⟩ (by simp)).mono ?_
      rintro e w4 ⟨rfl, k4⟩
      rw [sameG_self]
      have HF8 := Lib.hid (HF7.out.on k4)
      have hX8 := HX7.out.below k4 HX7.out.lt
      obtain ⟨x0, x1⟩ := hX8.c2
      have hxl := hX8.lt
      have HP5 := Lib.hid (HP3.out.below (k4.mono (by simp)))
      have HP6 := Lib.hid (HP4.out.below (k4.mono (by simp)))
      have hz4 := k4.size
      simp only [World.size_alloc] at hz4
      clear k4 hX8 HF7 HX7 HY7 HP3 HP4 HQ3 HQ4
      by_cases hN : RN = 0
      · have hN' : (RN != 0) = false := by simp [hN]
        have HCK := Lib.hid (HFIT.out hN)
        clear HFIT
        go_wp2_with fail
        refine (rcheck_any w3.heap.size _ _ _ _ _ _ RG.1 RG.2 _ HP5.out HP6.out (by omega)).mono ?_
        rintro e w5 ⟨rfl, k5⟩
        rw [HCK.out]
        go_wp2_with fail
        go_ret
        exact ⟨rfl, HF8.out.below.trans (k5.mono HF8.out.below.size)⟩
      · have hN' : (RN != 0) = true := by simp [hN]
        go_wp2_with fail
        go_ret
        exact ⟨rfl, HF8.out.below⟩
end Go.Proofs.Ytklmckbpbloonaa

namespace Go.Proofs.Ytklmckbpbloonaa
open Go.ChangeShapes Go.WideShapes Go.ChangeAt Go.RowKit Go.Joins Go.Deep

/-- Arguments read behind the call as they did, if nothing that was there has turned. -/
theorem trodAll_below {H : Type} {enc : TypeId × Value → H} {P : Program} (hl : laidOutB P = true) {W W' : World} (hb : Below W.heap.size W W') : ∀ {ts : List TypeId} {vs : List Value} {ds : List (DataW H)} {ps : List MemPlace}, (ts.all fun t => P.readableRec t && decide (t < P.types.size)) = true →
    DataW.TrodAll enc P W 0 (fun _ => true) true ts vs ds ps → (∀ x ∈ ps, x.block < W.heap.size) → DataW.TrodAll enc P W' 0 (fun b => decide (b < W.heap.size)) true ts vs ds ps
  | [], [], [], _, _, h, _ => h
  | t :: ts, _ :: _, _ :: _, _, hT, ⟨p, q, h1, h2, e⟩, hs => by
    simp only [List.all_cons, Bool.and_eq_true, decide_eq_true_eq] at hT
    exact ⟨p, q, Below.trod hl hT.1.1 hT.1.2 h1 hb (fun x hx => hs x (by rw [e]; exact List.mem_append_left _ hx)), trodAll_below hl hb hT.2 h2 (fun x hx => hs x (by rw [e]; exact List.mem_append_right _ hx)), e⟩
section
variable {H : Type} {enc : TypeId × Value → H} {W : World}
theorem u32_wf {n : Int} (h : (Lit.int .u32 n).wf = true) : 0 ≤ n ∧ n < 4294967296 := by
  simp [Lit.wf, IntKind.min, IntKind.max, IntKind.bits, IntKind.signed] at h
  omega
theorem row_block {a : Addr} {n : Nat} {ps : List MemPlace} (hn : 0 < n) (h : ∀ p ∈ MemPlace.row a n ++ ps, p.block < W.heap.size) : a.block < W.heap.size := by
  refine h (.cell a.block (a.off + 0)) (List.mem_append_left _ ?_)
  unfold MemPlace.row
  exact List.mem_map.2 ⟨0, List.mem_range.2 hn, rfl⟩
/-- A []uint32 that came in. -/
theorem open_us {fuel : Nat} {v : Value} {y : DataW H × List MemPlace} (h : DataW.trod enc Try.prog W 0 (fun _ => true) true fuel 22 [v] = some y) (hlt : ∀ p ∈ y.2, p.block < W.heap.size) :
    ∃ A n c xs, v = .slice A n c ∧ RdU W W.heap.size A n c xs := by
  rcases open_ints Try.underlying22 Try.underlying31 (by kernel_rfl) h with ⟨hv, hy⟩ | ⟨a, len, cap, zs, hv, hb, hl, hm, hz, hy, hc, hw⟩
  · refine ⟨none, 0, 0, [], by simpa using hv, Reads.none_, Nat.le_refl _, by omega, fun _ => rfl, fun x hx => by simp at hx⟩
  · simp only [if_true] at hz
    subst hy
    refine ⟨some a, len, cap, zs.take len, by simpa using hv, ⟨by rw [U_len, List.length_take]; omega, fun hn => ⟨a, rfl, ?_, fun j u hu => ?_⟩⟩, hl, by unfold maxLen at hm; omega, (fun e => by cases e), fun x hx => u32_wf (hw x (List.mem_of_mem_take hx))⟩
    · exact row_block (n := zs.length) (ps := []) (by omega) (by simpa using hlt)
    · have hj : j < len := by
        have := (List.getElem?_eq_some_iff.1 hu).1
        rw [U_len, List.length_take] at this; omega
      have hjz : j < zs.length := by omega
      rw [hc j hjz]
      rw [U_at (x := zs[j]) (by rw [List.getElem?_take_of_lt hj]; exact List.getElem?_eq_getElem hjz)] at hu
      injection hu with hu
      rw [← hu]
      simp [hjz]
set_option maxRecDepth 100000 in
/-- A []Edge that came in. -/
theorem open_es {fuel : Nat} {v : Value} {y : DataW H × List MemPlace} (h : DataW.trod enc Try.prog W 0 (fun _ => true) true fuel 23 [v] = some y) (hlt : ∀ p ∈ y.2, p.block < W.heap.size) :
    ∃ A n c es, v = .slice A n c ∧ RdE W W.heap.size A n c es := by
  have hC : Try.prog.cellsOf 39 = 3 := by kernel_rfl
  have hc1 : Try.prog.cellsOf 31 = 1 := by kernel_rfl
  rcases open_slice Try.underlying23 h with ⟨hv, hy⟩ | ⟨a, len, cap, m, n, D, Pl, hv, hb, hl, hm, hmm, hy, hi⟩
  · refine ⟨none, 0, 0, [], by simpa using hv, Reads.none_, Nat.le_refl _, by omega, fun _ => rfl, fun x hx => by simp at hx⟩
  · simp only [if_true] at hmm
    subst hmm
    subst hy
    have key : ∀ i, ∃ e : Edg, i < m → (W.cell? (a.add (i * 3)) = some (.int .u32 e.1) ∧ W.cell? (a.add (i * 3 + 1)) = some (.int .u32 e.2.1) ∧ W.cell? (a.add (i * 3 + 2)) = some (.int .u32 e.2.2)) ∧
        (0 ≤ e.1 ∧ e.1 < 4294967296) ∧ (0 ≤ e.2.1 ∧ e.2.1 < 4294967296) ∧ (0 ≤ e.2.2 ∧ e.2.2 < 4294967296) := by
      intro i
      by_cases him : i < m
      · obtain ⟨cs', hc, ht⟩ := hi i him
        rw [hC] at hc
        obtain ⟨_, hcl, hat⟩ := World.cells?_some hc
        obtain ⟨x0, x1, x2, n', _, hn', h0, h1, h2⟩ := trod_struct3 Try.underlying39 ht
        match cs', hcl with
        | [v0, v1, v2], _ =>
          simp only [hc1, List.drop_zero, List.drop_succ_cons, List.take_succ_cons, List.take_zero] at h0 h1 h2
          obtain ⟨z0, e0, _, w0⟩ := DataW.trod_int Try.underlying31 h0
          obtain ⟨z1, e1, _, w1⟩ := DataW.trod_int Try.underlying31 h1
          obtain ⟨z2, e2, _, w2⟩ := DataW.trod_int Try.underlying31 h2
          simp only [List.cons.injEq, and_true] at e0 e1 e2
          subst e0; subst e1; subst e2
          have a0 := hat 0 (by omega)
          have a1 := hat 1 (by omega)
          have a2 := hat 2 (by omega)
          rw [add_of_add] at a0 a1 a2
          exact ⟨(z0, z1, z2), fun _ => ⟨⟨a0, a1, a2⟩, u32_wf w0, u32_wf w1, u32_wf w2⟩⟩
      · exact ⟨(0, 0, 0), fun hh => absurd hh him⟩
    let f : Nat → Edg := fun i => Classical.choose (key i)
    have hf : ∀ i, i < m → _ := fun i him => Classical.choose_spec (key i) him
    have hlen : ((List.range len).map f).length = len := by simp
    have hat : ∀ i, i < len → ((List.range len).map f)[i]? = some (f i) := fun i hil => by simp [hil]
    refine ⟨some a, len, m, (List.range len).map f, by simpa using hv, ⟨by rw [Ed_len, hlen], fun hn => ⟨a, rfl, ?_, fun j u hu => ?_⟩⟩, hl, by unfold maxLen at hm; omega, (fun e => by cases e), fun e he => ?_⟩
    · exact row_block (n := m * Try.prog.cellsOf 39) (by rw [hC]; omega) hlt
    · have hj : j < len * 3 := by
        have := (List.getElem?_eq_some_iff.1 hu).1
        rw [Ed_len, hlen] at this; omega
      obtain ⟨b0, b1, b2⟩ := Ed_at (hat (j / 3) (by omega))
      obtain ⟨⟨g0, g1, g2⟩, _⟩ := hf (j / 3) (by omega)
      rcases (show j = j / 3 * 3 ∨ j = j / 3 * 3 + 1 ∨ j = j / 3 * 3 + 2 by omega) with e | e | e
      · rw [e] at hu ⊢
        rw [b0] at hu; rw [g0, ← hu]
      · rw [e] at hu ⊢
        rw [b1] at hu; rw [g1, ← hu]
      · rw [e] at hu ⊢
        rw [b2] at hu; rw [g2, ← hu]
    · obtain ⟨i, hil, rfl⟩ := List.mem_map.1 he
      exact (hf i (by have := List.mem_range.1 hil; omega)).2
set_option maxRecDepth 100000 in
/-- A graph by value. -/
theorem open_graph {b0 : Nat} {v : Value} {d : DataW H} {p : List MemPlace} (hv : Value.okWide Try.prog W .any b0 25 v) (h : DataW.Trod enc Try.prog W 0 (fun _ => true) true 25 v d p) (hlt : ∀ x ∈ p, x.block < W.heap.size) :
    ∃ A n c A' n' c' vs es, v = .agg #[.slice A n c, .slice A' n' c'] ∧ RdU W W.heap.size A n c vs ∧ RdE W W.heap.size A' n' c' es := by
  obtain ⟨v0, v1, y0, y1, n, rfl, rfl, rfl, h0, h1⟩ := open_agg2 Try.underlying25 (by kernel_rfl) (by kernel_rfl) hv h
  obtain ⟨A, n1, c, xs, rfl, k0⟩ := open_us h0 fun x hx => hlt x (List.mem_append_left _ hx)
  obtain ⟨A', n', c', es, rfl, k1⟩ := open_es h1 fun x hx => hlt x (List.mem_append_right _ hx)
  exact ⟨A, n1, c, A', n', c', xs, es, rfl, k0, k1⟩

set_option maxRecDepth 100000 in
theorem laidOutP : laidOutB Try.prog = true := by kernel_rfl
/-- The row's last step: it returned true; nothing that was there has turned; the arguments read as they did. -/
theorem post_true {f : Func} {s : ChangeSpec} {W' : World} {args : Array Value} {ds : List (DataW H)} {before : List MemPlace} (hr : f.resultTypes = #[4]) (hs0 : s.vars = [])
    (hts : (f.params.toList.all fun t => Try.prog.readableRec t && decide (t < Try.prog.types.size)) = true)
    (hW : DataW.Whole enc Try.prog f.params.toList s.vars false W args.toList ds [] before) (hres : (s.fn H ds).results = [.lit (.bool true)]) (hargs : (s.fn H ds).args = ds) (hvars : (s.fn H ds).vars = [])
    (hb : Below W.heap.size W W') : s.post enc Try.prog f false true false false W args (.bool true) W' := by
  have hlt : ∀ p ∈ before, p.block < W.heap.size := fun p hp => hW.lt p hp
  refine ⟨ds, [], before, [], before, [], hW, ?_, ?_, ?_, hb.frame _, fun h => by cases h⟩
  · rw [List.append_nil, hres, hr]
    exact trodAll_mk1 (shut_bool Try.underlying4 true)
  · rw [List.append_nil, hargs]
    obtain ⟨p, q, hA, hV, rfl, _⟩ := hW
    rw [hs0] at hV
    obtain rfl : q = [] := hV
    rw [List.append_nil] at hlt ⊢
    exact trodAll_below laidOutP hb hts hA hlt
  · rw [List.append_nil, hvars, hs0]; exact rfl
end
end Go.Proofs.Ytklmckbpbloonaa

namespace Go.Proofs.Ytklmckbpbloonaa
open Go.ChangeShapes Go.WideShapes Go.ChangeAt Go.RowKit Go.Joins Go.Deep

section
variable {H : Type} {enc : TypeId × Value → H} {W : World}
set_option maxRecDepth 100000 in
/-- A []uint32 that is an argument. -/
theorem open_us_arg {b0 : Nat} {v : Value} {d : DataW H} {p : List MemPlace} (hv : Value.okWide Try.prog W .any b0 22 v) (h : DataW.Trod enc Try.prog W 0 (fun _ => true) true 22 v d p) (hlt : ∀ x ∈ p, x.block < W.heap.size) :
    ∃ A n c xs, v = .slice A n c ∧ RdU W W.heap.size A n c xs := by
  obtain ⟨a0, n, c, rfl⟩ := okWide_slice Try.underlying22 hv
  obtain ⟨fuel, hf⟩ := h
  obtain ⟨A, n', c', xs, e, k⟩ := open_us (y := (d, p)) (v := .slice a0 n c) (by simpa [Value.cells] using hf) hlt
  exact ⟨A, n', c', xs, e, k⟩
set_option maxRecDepth 100000 in
/-- A number of 32 bits, a bool. -/
theorem open_u_arg {v : Value} {d : DataW H} {p : List MemPlace} {b0 : Nat} (hv : Value.okWide Try.prog W .any b0 31 v) (h : DataW.Trod enc Try.prog W 0 (fun _ => true) true 31 v d p) :
    ∃ x : Int, v = .int .u32 x ∧ 0 ≤ x ∧ x < 4294967296 := by
  obtain ⟨x, rfl⟩ := okWide_int Try.underlying31 hv
  obtain ⟨fuel, hf⟩ := h
  obtain ⟨z, e, _, hw⟩ := DataW.trod_int Try.underlying31 hf
  simp [Value.cells] at e
  subst e
  exact ⟨x, rfl, u32_wf hw⟩
set_option maxRecDepth 100000 in
theorem open_b_arg {v : Value} {b0 : Nat} (hv : Value.okWide Try.prog W .any b0 4 v) : ∃ x : Bool, v = .bool x := okWide_bool Try.underlying4 hv
end
end Go.Proofs.Ytklmckbpbloonaa
