/- Parts of the proof: UnT. -/
import Derived.Test.YtklmckbpbloonaaUT35
import Derived.Test.YtklmckbpbloonaaUT36
import Derived.Test.YtklmckbpbloonaaUT37
import Derived.Test.YtklmckbpbloonaaUT6
import Derived.Test.YtklmckbpbloonaaUT20
import Derived.Test.YtklmckbpbloonaaUT21
namespace Go.Proofs.Ytklmckbpbloonaa
open Go.RowKit

/-- The least number that stands twice, as it is found: b: does the present one, x, stand ahead? -/
def inT (c x : Int) (b : Bool) : Int := if b && (decide (c = 0) || decide (x < c)) then x else c
theorem clash_inT {es : List Edg} {k : Nat} {x : Edg} (h : es[k]? = some x) : clashTo es (k + 1) = inT (clashTo es k) x.1 (decide (x.1 ∈ idsTo es k)) := by
  rw [clashTo, K_at h]; rfl
theorem inT_no (c x : Int) : inT c x false = c := by simp [inT]
theorem inT_hit (c x : Int) (b : Bool) (h : inT c x b = 0 ∨ x < inT c x b) : x = inT c x true := by
  cases b
  · rw [inT_no] at h
    unfold inT
    rcases h with h | h
    · simp [h]
    · simp [h]
  · unfold inT at h ⊢
    split at h
    · rename_i e; rw [if_pos e]
    · rename_i e
      simp only [Bool.true_and, Bool.or_eq_true, decide_eq_true_eq] at e
      exact absurd h e
theorem inT_miss (c x : Int) (b : Bool) (h : ¬ (inT c x b = 0 ∨ x < inT c x b)) : inT c x b = inT c x true := by
  cases b
  · rw [inT_no] at h ⊢
    unfold inT
    rw [if_neg]
    simpa using h
  · rfl
theorem inT_ok {c x : Int} (b : Bool) (hc : 0 ≤ c ∧ c < 4294967296) (hx : 0 ≤ x ∧ x < 4294967296) : 0 ≤ inT c x b ∧ inT c x b < 4294967296 := by
  unfold inT; split
  · exact hx
  · exact hc
theorem idsTo_in {es : List Edg} {j : Nat} {y : Edg} (h : es[j]? = some y) (x : Int) : decide (x ∈ idsTo es (j + 1)) = (decide (x ∈ idsTo es j) || decide (x = y.1)) := by
  rw [idsTo_succ h]
  by_cases h1 : x ∈ idsTo es j <;> by_cases h2 : x = y.1 <;> simp [h1, h2]
theorem belongs_A (b t : Bool) : (true && t || true && !b || t && !b) = (t || !b) := by cases b <;> cases t <;> rfl
theorem belongs_B (b : Bool) : (false && true || false && !b || true && !b) = !b := by cases b <;> rfl
set_option maxRecDepth 100000 in
set_option maxHeartbeats 4000000 in
theorem rof_any (B : Nat) (vb vo vt : Value) (b o t : Gph) (w : World) (hb : RdG w B vb b) (ho : RdG w B vo o) (ht : RdG w B vt t) (hB : B ≤ w.heap.size)
    (s1 : o.1.length ≤ 1000) (s2 : t.1.length ≤ 1000) (s3 : o.2.length ≤ 1000) (s4 : t.2.length ≤ 1000) :
    Calls Try.prog 35 #[vb, vo, vt] w fun e w' => ∃ gv, e = .returned (.tuple #[gv, .int .u32 (unR b o t).2.1, .int .i64 (unR b o t).2.2]) ∧ RdG w' w'.heap.size gv (unR b o t).1 ∧ Below w.heap.size w w' := by
  obtain ⟨Ab, nb, cb, Ab', nb', cb', rfl, hb1, hb2⟩ := hb
  obtain ⟨Ao, no, co, Ao', no', co', rfl, ho1, ho2⟩ := ho
  obtain ⟨At, nt, ct, At', nt', ct', rfl, ht1, ht2⟩ := ht
  have lo1 := ho1.len
  have lo2 := ho2.len
  have lt1 := ht1.len
  have lt2 := ht2.len
  have HN1 := Lib.hid (allN_le b.1 o.1 t.1)
  have HN2 := Lib.hid (allE_le b.2 o.2 t.2)
  have HF0 := Lib.hid (OfFr.first w (.slice Ab nb cb) (.slice Ab' nb' cb') (.slice Ao no co) (.slice Ao' no' co') (.slice At nt ct) (.slice At' nt' ct'))
  obtain ⟨hbc1, hbc2⟩ := ho2.bd
  obtain ⟨htc1, htc2⟩ := ht2.bd
  have HLo := Lib.hid lo2
  have HLt := Lib.hid lt2
  go_enter Try.func35, Try.ntmps35
  go_wp2_with fail
  go_loopw [9, 11, 25] (fun ov _ i wr => ∃ (k : Nat) (r : Option Nat) (A : Option Addr) (c : Nat), k ≤ no' ∧ i = .int .i64 k ∧ ov = .slice A (fltEN o.2 (pAE b.2 t.2) k) c ∧ OwnE wr r A (fltEN o.2 (pAE b.2 t.2) k) c (fltE o.2 (pAE b.2 t.2) k) ∧ (∀ g, r = some g → w.heap.size + 4 ≤ g) ∧ OfFr w wr (.slice Ab nb cb) (.slice Ab' nb' cb') (.slice Ao no co) (.slice Ao' no' co') (.slice At nt ct) (.slice At' nt' ct')) (fun _ _ i _ => no' - (intOf i).toNat)
  case atStart => exact ⟨0, none, none, 0, by omega, rfl, by simp [fltEN, fltE], by simpa [fltEN, fltE] using OwnE.nil_ _ _, by simp, HF0.out⟩
  case round =>
    clear HF0
    obtain ⟨k, r, A, c, hk, rfl, rfl, hown, hr, hF⟩ := hrel
    have hFs := hF.size
    have hbs := hF.below
    by_cases hlt : k < no'
    · have hq := ho2.below (hbs.mono hB)
      obtain ⟨ad, x, rfl, hbl, hx, hxb, hc1, hc2, hc3⟩ := hq.at_ hlt
      have hle := fltEN_le o.2 (pAE b.2 t.2) k
      have HN : Hid (fltEN o.2 (pAE b.2 t.2) (k + 1) = fltEN o.2 (pAE b.2 t.2) k + if pAE b.2 t.2 x then 1 else 0) := fltEN_succ hx
      have HT : Hid (fltE o.2 (pAE b.2 t.2) (k + 1) = fltE o.2 (pAE b.2 t.2) k ++ if pAE b.2 t.2 x then [x] else []) := fltE_succ hx
      have hb1 := (Below.refl wr.heap.size wr).alloc (Nat.le_refl _) (.cells #[.int .u32 x.1, .int .u32 x.2.1, .int .u32 x.2.2] 39)
      have HFX := Lib.hid (hF.on hb1)
      have HOX := Lib.hid (hown.alloc (.cells #[.int .u32 x.1, .int .u32 x.2.1, .int .u32 x.2.2] 39))
      have HZX := Lib.hid (Blk.new wr 39 #[.int .u32 x.1, .int .u32 x.2.1, .int .u32 x.2.2])
      have HBX := Lib.hid HFX.out.below
      have HFS := Lib.hid hFs
      obtain ⟨f0, f1⟩ := hF.b.c2
      obtain ⟨f2, f3⟩ := hF.t.c2
      have hbl0 := hF.b.lt
      have hbl2 := hF.t.lt
      have HS : Hid (∀ W : World, Below (wr.heap.size + 1) (wr.alloc (.cells #[.int .u32 x.1, .int .u32 x.2.1, .int .u32 x.2.2] 39)) W → W.cell? ⟨w.heap.size, 1, none⟩ = some (.slice Ab' nb' cb') ∧ W.cell? ⟨w.heap.size + 1 + 1, 1, none⟩ = some (.slice At' nt' ct') ∧ W.cell? ⟨wr.heap.size, 0, none⟩ = some (.int .u32 x.1) ∧ W.cell? ⟨wr.heap.size, 1, none⟩ = some (.int .u32 x.2.1) ∧ W.cell? ⟨wr.heap.size, 2, none⟩ = some (.int .u32 x.2.2)) := by
        intro W hW
        have hb := HFX.out.b.below hW (by omega)
        have ht := HFX.out.t.below hW (by omega)
        have hz := HZX.out.below hW (by omega)
        exact ⟨hb.c2.2, ht.c2.2, hz.c3⟩
      have HK := Lib.hid hr
      clear hx hown hF hbs hq hb1 hr
      go_wp2_with fail
      refine wp_region_held_drew (S := fun W => Below (wr.heap.size + 1) (wr.alloc (.cells #[.int .u32 x.1, .int .u32 x.2.1, .int .u32 x.2.2] 39)) W) (by kernel_rfl) (by have := (Below.refl (wr.alloc (.cells #[.int .u32 x.1, .int .u32 x.2.1, .int .u32 x.2.2] 39)).heap.size (wr.alloc (.cells #[.int .u32 x.1, .int .u32 x.2.1, .int .u32 x.2.2] 39))); simp only [World.size_alloc] at this; exact this.drew) (fun hHeld => ?_)
      refine held_take 0 29 (.pointer (some ⟨w.heap.size, 1, none⟩)) (by simp only [List.getElem?_toArray, List.getElem?_cons_zero]; rfl) rfl rfl (by kernel_rfl) (by kernel_rfl) (by kernel_rfl) (fun _ _ _ _ h => h) (by intro W hW; go_simp) hHeld ?_
      simp only [List.setIfInBounds_toArray, List.set_cons_zero, List.set_cons_succ]
      refine held_take 1 30 (.slice Ab' nb' cb') (by simp only [List.getElem?_toArray, List.getElem?_cons_succ, List.getElem?_cons_zero]; rfl) rfl rfl (by kernel_rfl) (by kernel_rfl) (by kernel_rfl) (fun _ _ _ _ h => h) (by intro W hW; have z := (HS.out W hW).1; go_simp) hHeld ?_
      simp only [List.setIfInBounds_toArray, List.set_cons_zero, List.set_cons_succ]
      refine held_take 2 31 (edV x) (by simp only [List.getElem?_toArray, List.getElem?_cons_succ, List.getElem?_cons_zero]; rfl) rfl rfl (by kernel_rfl) (by kernel_rfl) (by kernel_rfl) (fun _ _ _ _ h => h) (by intro W hW; obtain ⟨_, _, z1, z2, z3⟩ := HS.out W hW; unfold edV edC; go_simp) hHeld ?_
      simp only [List.setIfInBounds_toArray, List.set_cons_zero, List.set_cons_succ]
      refine held_take 4 33 (.pointer (some ⟨w.heap.size + 1 + 1, 1, none⟩)) (by simp only [List.getElem?_toArray, List.getElem?_cons_succ, List.getElem?_cons_zero]; rfl) rfl rfl (by kernel_rfl) (by kernel_rfl) (by kernel_rfl) (fun _ _ _ _ h => h) (by intro W hW; go_simp) hHeld ?_
      simp only [List.setIfInBounds_toArray, List.set_cons_zero, List.set_cons_succ]
      refine held_take 5 34 (.slice At' nt' ct') (by simp only [List.getElem?_toArray, List.getElem?_cons_succ, List.getElem?_cons_zero]; rfl) rfl rfl (by kernel_rfl) (by kernel_rfl) (by kernel_rfl) (fun _ _ _ _ h => h) (by intro W hW; have z := (HS.out W hW).2.1; go_simp) hHeld ?_
      simp only [List.setIfInBounds_toArray, List.set_cons_zero, List.set_cons_succ]
      refine held_take 6 35 (edV x) (by simp only [List.getElem?_toArray, List.getElem?_cons_succ, List.getElem?_cons_zero]; rfl) rfl rfl (by kernel_rfl) (by kernel_rfl) (by kernel_rfl) (fun _ _ _ _ h => h) (by intro W hW; obtain ⟨_, _, z1, z2, z3⟩ := HS.out W hW; unfold edV edC; go_simp) hHeld ?_
      simp only [List.setIfInBounds_toArray, List.set_cons_zero, List.set_cons_succ]
      refine held_call 3 32 71 #[.slice Ab' nb' cb', edV x] (by simp only [List.getElem?_toArray, List.getElem?_cons_succ, List.getElem?_cons_zero]; rfl) rfl rfl (by kernel_rfl) (by intro W; go_simp) ?_
      have HB8 := Lib.hid hHeld.size
      refine (rhasE_any B _ _ _ b.2 x _ (hb2.below (HBX.out.trans (hHeld.mono (by have := HFS.out; omega)) |>.mono hB)) (by have := HFS.out; have := HB8.out; simp only [World.size_alloc] at this; omega)).mono ?_
      rintro e w3 ⟨rfl, B3⟩
      have hHeld := hHeld.trans (B3.mono (by have := HB8.out; simp only [World.size_alloc] at this; omega))
      refine ⟨_, rfl, hHeld, ?_⟩
      simp only [List.setIfInBounds_toArray, List.set_cons_zero, List.set_cons_succ]
      refine held_call 7 36 71 #[.slice At' nt' ct', edV x] (by simp only [List.getElem?_toArray, List.getElem?_cons_succ, List.getElem?_cons_zero]; rfl) rfl rfl (by kernel_rfl) (by intro W; go_simp) ?_
      have HB9 := Lib.hid hHeld.size
      refine (rhasE_any B _ _ _ t.2 x _ (ht2.below (HBX.out.trans (hHeld.mono (by have := HFS.out; omega)) |>.mono hB)) (by have := HFS.out; have := HB9.out; simp only [World.size_alloc] at this; omega)).mono ?_
      rintro e w4 ⟨rfl, B4⟩
      have hHeld := hHeld.trans (B4.mono (by have := HB9.out; simp only [World.size_alloc] at this; omega))
      refine ⟨_, rfl, hHeld, ?_⟩
      simp only [List.setIfInBounds_toArray, List.set_cons_zero, List.set_cons_succ]
      refine held_call 8 37 65 #[.bool (hasE b.2 x), .bool true, .bool (hasE t.2 x)] (by simp only [List.getElem?_toArray, List.getElem?_cons_succ, List.getElem?_cons_zero]; rfl) rfl rfl (by kernel_rfl) (by intro W; go_simp) ?_
      refine (belongs_any _ _ _ _).mono ?_
      rintro e w5 ⟨rfl, rfl⟩
      refine ⟨_, rfl, hHeld, ?_⟩
      simp only [List.setIfInBounds_toArray, List.set_cons_zero, List.set_cons_succ]
      refine wpAnyH_done (by kernel_rfl) ?_ _
      rw [belongs_A]
      obtain ⟨pp, hpp⟩ : ∃ pp, (hasE t.2 x || !hasE b.2 x) = pp := ⟨_, rfl⟩
      rw [hpp]
      have HP : Hid (pAE b.2 t.2 x = pp) := hpp
      clear hpp
      have HH := Lib.hid hHeld
      have hHs := hHeld.size
      simp only [World.size_alloc] at hHs
      have HF9 := Lib.hid (HFX.out.on (by simpa using hHeld))
      have HO9 := Lib.hid (HOX.out.below hHeld (by intro g e; have := HOX.out.lt g e; simpa using this))
      have HZ9 := Lib.hid (HZX.out.below hHeld (by omega))
      clear hHeld
      cases pp
      · go_wp2_with fail
        go_roundw
        case rel =>
          have hN := HN.out
          have hT := HT.out
          rw [HP.out] at hN hT
          simp only [Bool.false_eq_true, if_false, Nat.add_zero, List.append_nil] at hN hT
          exact ⟨k + 1, r, A, c, by omega, by go_num, by rw [hN], by rw [hN, hT]; exact HO9.out, HK.out, HF9.out⟩
        case measure => simp [intOf]; omega
      · obtain ⟨z0, z1, z2⟩ := HZ9.out.c3
        have hzl := HZ9.out.lt
        go_wp2_with (first
          | (at_builtin; refine appE1 rfl (.tmp 38) (.tmp 40) rfl _ r _ _ c (fltE o.2 (pAE b.2 t.2) k) rfl (HO9.out.alloc (.cells #[.int .u32 x.1, .int .u32 x.2.1, .int .u32 x.2.2] 39)) w4.heap.size x rfl (Blk.new _ _ _) hxb (by omega) ?_; intro r3 A3 c3 w6 m1 m2 m3))
        go_roundw
        case rel =>
          have hr3 : ∀ g, r3 = some g → w.heap.size + 4 ≤ g := since_of (w := w4.alloc (.cells #[.int .u32 x.1, .int .u32 x.2.1, .int .u32 x.2.2] 39)) (w' := w6) (by have := HF9.out.size; simp; omega) HK.out m3
          have hN := HN.out
          have hT := HT.out
          rw [HP.out] at hN hT
          simp only [if_true] at hN hT
          exact ⟨k + 1, r3, A3, c3, by omega, by go_num, by rw [hN], by rw [hN, hT]; exact m1, hr3, (HF9.out.alloc (.cells #[.int .u32 x.1, .int .u32 x.2.1, .int .u32 x.2.2] 39)).grown m2 HK.out⟩
        case measure => simp [intOf]; omega
    · obtain rfl : no' = k := by omega
      obtain ⟨wo, rfl⟩ : ∃ wo : World, wo = wr := ⟨_, rfl⟩
      rw [← allETN_zero b.2 o.2 t.2] at hown ⊢
      rw [← allETo_zero] at hown
      have HOW := Lib.hid hown
      have HFW := Lib.hid hF
      have HRW := Lib.hid hr
      obtain ⟨f0, f1⟩ := hF.b.c2
      obtain ⟨f2, f3⟩ := hF.o.c2
      obtain ⟨f4, f5⟩ := hF.t.c2
      have hbl0 := hF.b.lt
      have hbl1 := hF.o.lt
      have hbl2 := hF.t.lt
      clear hown hF hr hbs
      go_wp2_with fail
      go_loopw [9, 13, 46] (fun ov _ i wr => ∃ (m : Nat) (r : Option Nat) (A : Option Addr) (c : Nat), m ≤ nt' ∧ i = .int .i64 m ∧ ov = .slice A (allETN b.2 o.2 t.2 no' m) c ∧ OwnE wr r A (allETN b.2 o.2 t.2 no' m) c (allETo b.2 o.2 t.2 no' m) ∧ (∀ g, r = some g → w.heap.size + 4 ≤ g) ∧ OfFr w wr (.slice Ab nb cb) (.slice Ab' nb' cb') (.slice Ao no co) (.slice Ao' no' co') (.slice At nt ct) (.slice At' nt' ct')) (fun _ _ i _ => nt' - (intOf i).toNat)
      case atStart => exact ⟨0, r, A, c, by omega, rfl, rfl, HOW.out, HRW.out, HFW.out⟩
      case round =>
        clear HOW HFW HRW f0 f1 f2 f3 f4 f5 hbl0 hbl1 hbl2
        obtain ⟨m, r, A, c, hm, rfl, rfl, hown, hr, hF⟩ := hrel
        have hle1 := fltEN_le o.2 (pAE b.2 t.2) no'
        have hle2 := fltEN_le t.2 (pBE b.2 o.2) m
        have hle : allETN b.2 o.2 t.2 no' m ≤ 2000 := by unfold allETN; omega
        clear hle1 hle2
        have hbs := hF.below
        by_cases hlt2 : m < nt'
        · have hq := ht2.below (hbs.mono hB)
          obtain ⟨ad, x, rfl, hbl, hx, hxb, hc1, hc2, hc3⟩ := hq.at_ hlt2
          have HN : Hid (allETN b.2 o.2 t.2 no' (m + 1) = allETN b.2 o.2 t.2 no' m + if pBE b.2 o.2 x then 1 else 0) := by
            show _ = _; unfold allETN; rw [fltEN_succ hx]; omega
          have HT : Hid (allETo b.2 o.2 t.2 no' (m + 1) = allETo b.2 o.2 t.2 no' m ++ if pBE b.2 o.2 x then [x] else []) := by
            show _ = _; unfold allETo; rw [fltE_succ hx]; simp
          have hb1 := (Below.refl wr.heap.size wr).alloc (Nat.le_refl _) (.cells #[.int .u32 x.1, .int .u32 x.2.1, .int .u32 x.2.2] 39)
          have HFX := Lib.hid (hF.on hb1)
          have HOX := Lib.hid (hown.alloc (.cells #[.int .u32 x.1, .int .u32 x.2.1, .int .u32 x.2.2] 39))
          have HZX := Lib.hid (Blk.new wr 39 #[.int .u32 x.1, .int .u32 x.2.1, .int .u32 x.2.2])
          have HK := Lib.hid hr
          have hFs := hF.size
          obtain ⟨f2, f3⟩ := hF.o.c2
          have hbl1 := hF.o.lt
          clear hx hown hF hbs hq hb1 hr
          go_wp2_with fail
          rw [edV_lit]
          refine (rhasE_any B _ _ _ o.2 x _ (ho2.below (HFX.out.below.mono hB)) (by have := HFX.out.below.size; omega)).mono ?_
          rintro e w2 ⟨rfl, B2⟩
          have hF2 := HFX.out.on B2
          have HF2 := Lib.hid hF2
          have HO2 := Lib.hid (HOX.out.below B2 HOX.out.lt)
          have hZ2 := HZX.out.below B2 HZX.out.lt
          have HZ2 := Lib.hid hZ2
          obtain ⟨f0, f1⟩ := hF2.b.c2
          have hbl0 := hF2.b.lt
          obtain ⟨z0, z1, z2⟩ := hZ2.c3
          have hzl := hZ2.lt
          clear B2 hF2 hZ2 HFX HOX HZX f2 f3 hbl1
          cases h1 : hasE o.2 x
          · have H1 := Lib.hid h1
            clear h1
            go_wp2_with fail
            rw [edV_lit]
            refine (rhasE_any B _ _ _ b.2 x _ (hb2.below (HF2.out.below.mono hB)) (by have := HF2.out.below.size; omega)).mono ?_
            rintro e w3 ⟨rfl, B3⟩
            have HF3 := Lib.hid (HF2.out.on B3)
            have HO3 := Lib.hid (HO2.out.below B3 HO2.out.lt)
            have hZ3 := HZ2.out.below B3 HZ2.out.lt
            have HZ3 := Lib.hid hZ3
            obtain ⟨z0, z1, z2⟩ := hZ3.c3
            have hzl := hZ3.lt
            clear B3 hZ3 HF2 HO2 HZ2 f0 f1 hbl0
            go_wp2_with fail
            refine (belongs_any _ _ _ _).mono ?_
            rintro e w4 ⟨rfl, rfl⟩
            rw [belongs_B]
            cases h2 : hasE b.2 x
            · have H2 := Lib.hid h2
              clear h2
              go_wp2_with (first
                | (at_builtin; refine appE1 rfl (.tmp 62) (.tmp 64) rfl _ r _ _ c (allETo b.2 o.2 t.2 no' m) rfl (HO3.out.alloc (.cells #[.int .u32 x.1, .int .u32 x.2.1, .int .u32 x.2.2] 39)) w3.heap.size x rfl (Blk.new _ _ _) hxb (by omega) ?_; intro r3 A3 c3 w6 m1 m2 m3))
              go_roundw
              case rel =>
                have hp : pBE b.2 o.2 x = true := by simp [pBE, H1.out, H2.out]
                have hr3 : ∀ g, r3 = some g → w.heap.size + 4 ≤ g := since_of (w := w3.alloc (.cells #[.int .u32 x.1, .int .u32 x.2.1, .int .u32 x.2.2] 39)) (w' := w6) (by have := HF3.out.size; simp; omega) HK.out m3
                have hN := HN.out
                have hT := HT.out
                rw [hp] at hN hT
                simp only [if_true] at hN hT
                exact ⟨m + 1, r3, A3, c3, by omega, by go_num, by rw [hN], by rw [hN, hT]; exact m1, hr3, (HF3.out.alloc (.cells #[.int .u32 x.1, .int .u32 x.2.1, .int .u32 x.2.2] 39)).grown m2 HK.out⟩
              case measure => simp [intOf]; omega
            · have H2 := Lib.hid h2
              clear h2
              go_wp2_with fail
              go_roundw
              case rel =>
                have hp : pBE b.2 o.2 x = false := by simp [pBE, H1.out, H2.out]
                have hN := HN.out
                have hT := HT.out
                rw [hp] at hN hT
                simp only [Bool.false_eq_true, if_false, Nat.add_zero, List.append_nil] at hN hT
                exact ⟨m + 1, r, A, c, by omega, by go_num, by rw [hN], by rw [hN, hT]; exact HO3.out, HK.out, HF3.out⟩
              case measure => simp [intOf]; omega
          · have H1 := Lib.hid h1
            clear h1
            go_wp2_with fail
            go_roundw
            case rel =>
              have hp : pBE b.2 o.2 x = false := by simp [pBE, H1.out]
              have hN := HN.out
              have hT := HT.out
              rw [hp] at hN hT
              simp only [Bool.false_eq_true, if_false, Nat.add_zero, List.append_nil] at hN hT
              exact ⟨m + 1, r, A, c, by omega, by go_num, by rw [hN], by rw [hN, hT]; exact HO2.out, HK.out, HF2.out⟩
            case measure => simp [intOf]; omega
        · obtain rfl : nt' = m := by omega
          obtain ⟨wo, rfl⟩ : ∃ wo : World, wo = wr := ⟨_, rfl⟩
          have e1 := allETo_all b.2 o.2 t.2 HLo.out HLt.out
          obtain ⟨l, hl⟩ : ∃ l, allE b.2 o.2 t.2 = l := ⟨_, rfl⟩
          rw [hl] at e1
          rw [e1] at hown
          obtain ⟨n, hn⟩ : ∃ n, allETN b.2 o.2 t.2 no' nt' = n := ⟨_, rfl⟩
          rw [hn] at hown hle
          rw [hn]
          have hln := hown.len
          have HL : Hid (unL b o t = l) := hl
          have HLN := Lib.hid hln
          have HC : Hid (unC b o t = clashTo l n) := by show clashTo _ _ = _; rw [HL.out, hln]
          have HED : Hid (edgs l) := hown.2
          have HOW := Lib.hid hown
          have HFW := Lib.hid hF
          have HRW := Lib.hid hr
          obtain ⟨hnc, hcc⟩ := hown.rd.bd
          clear hl hn e1 hln hown hF hr hbs HN2
          go_wp2_with fail
          go_loopw [14, 16, 18, 69] (fun s14 _ _ i wr => ∃ q : Nat, q ≤ n ∧ i = .int .i64 q ∧ s14 = .int .u32 (clashTo l q) ∧ OwnE wr r A n c l ∧ OfFr w wr (.slice Ab nb cb) (.slice Ab' nb' cb') (.slice Ao no co) (.slice Ao' no' co') (.slice At nt ct) (.slice At' nt' ct')) (fun _ _ _ i _ => n - (intOf i).toNat)
          case atStart => exact ⟨0, by omega, rfl, rfl, HOW.out, HFW.out⟩
          case round =>
            clear HOW HFW
            obtain ⟨q, hq, rfl, rfl, hown, hF⟩ := hrel
            by_cases hlt3 : q < n
            · obtain ⟨ad, x, rfl, hbl, hx, hxb, hc1, hc2, hc3⟩ := hown.rd.at_ hlt3
              have HCK : Hid (clashTo l (q + 1) = inT (clashTo l q) x.1 (decide (x.1 ∈ idsTo l q))) := clash_inT hx
              have hcb := clashTo_ok HED.out q
              obtain ⟨C0, hC0⟩ : ∃ C0, clashTo l q = C0 := ⟨_, rfl⟩
              rw [hC0] at HCK hcb ⊢
              have HCB := Lib.hid hcb
              have hb1 := (Below.refl wr.heap.size wr).alloc (Nat.le_refl _) (.cells #[.int .u32 x.1, .int .u32 x.2.1, .int .u32 x.2.2] 39)
              have HFX := Lib.hid (hF.on hb1)
              have HOX := Lib.hid (hown.alloc (.cells #[.int .u32 x.1, .int .u32 x.2.1, .int .u32 x.2.2] 39))
              have HZX := Lib.hid (Blk.new wr 39 #[.int .u32 x.1, .int .u32 x.2.1, .int .u32 x.2.2])
              obtain ⟨gx, hgx⟩ : ∃ gx, wr.heap.size = gx := ⟨_, rfl⟩
              have HI0 : Hid (inT C0 x.1 false = C0 ∧ false = decide (x.1 ∈ idsTo l 0)) := ⟨inT_no _ _, by simp [idsTo]⟩
              clear hx hown hF hb1 hC0 hcb
              go_wp2_with fail
              rw [hgx] at HZX
              clear hgx
              go_loopw [14, 18, 78] (fun s14 _ i wr => ∃ (j : Nat) (bb : Bool), j ≤ q ∧ i = .int .i64 j ∧ s14 = .int .u32 (inT C0 x.1 bb) ∧ Hid (bb = decide (x.1 ∈ idsTo l j)) ∧ OwnE wr r (some ad) n c l ∧ Blk wr gx 39 #[.int .u32 x.1, .int .u32 x.2.1, .int .u32 x.2.2] ∧ OfFr w wr (.slice Ab nb cb) (.slice Ab' nb' cb') (.slice Ao no co) (.slice Ao' no' co') (.slice At nt ct) (.slice At' nt' ct')) (fun _ _ i _ => q - (intOf i).toNat)
              case atStart => exact ⟨0, false, by omega, rfl, by rw [HI0.out.1], HI0.out.2, HOX.out, HZX.out, HFX.out⟩
              case round =>
                clear HI0 HOX HZX HFX
                obtain ⟨j, bb, hj, rfl, rfl, HBB, hown, hZ, hF⟩ := hrel
                have htb := inT_ok bb HCB.out hxb.1
                by_cases hlt4 : j < q
                · obtain ⟨ad2, y, hee, hbl2, hy, hyb, hd1, hd2, hd3⟩ := hown.rd.at_ (k := j) (by omega)
                  injection hee with hee
                  subst hee
                  have HIN : Hid (decide (x.1 ∈ idsTo l (j + 1)) = (bb || decide (x.1 = y.1))) := by show _ = _; rw [idsTo_in hy, ← HBB.out]
                  have hjn : (j : Int) < q := by omega
                  have hb1 := (Below.refl wr.heap.size wr).alloc (Nat.le_refl _) (.cells #[.int .u32 y.1, .int .u32 y.2.1, .int .u32 y.2.2] 39)
                  have HFY := Lib.hid (hF.on hb1)
                  have HOY := Lib.hid (hown.alloc (.cells #[.int .u32 y.1, .int .u32 y.2.1, .int .u32 y.2.2] 39))
                  have HZY := Lib.hid (hZ.alloc (.cells #[.int .u32 y.1, .int .u32 y.2.1, .int .u32 y.2.2] 39))
                  obtain ⟨z0, z1, z2⟩ := hZ.c3
                  have hzl := hZ.lt
                  have h5 := inT_hit C0 x.1 bb
                  have h6 := inT_miss C0 x.1 bb
                  have H5 := Lib.hid h5
                  have H6 := Lib.hid h6
                  clear hy hown hF hZ hb1 h5 h6
                  obtain ⟨T, hT⟩ : ∃ T, inT C0 x.1 bb = T := ⟨_, rfl⟩
                  rw [hT] at H5 H6 htb ⊢
                  have HTT := Lib.hid hT
                  clear hT
                  by_cases hxy : x.1 = y.1
                  · have hxy' : (x.1 == y.1) = true := by simp [hxy]
                    have HXY := Lib.hid hxy
                    by_cases hT0 : T = 0
                    · have hT0' : (T == 0) = true := by simp [hT0]
                      have e3 := H5.out (.inl hT0)
                      have E3 := Lib.hid e3
                      clear hT0 e3 hxy
                      go_wp2_with fail
                      go_roundw
                      case rel => exact ⟨j + 1, true, by omega, by go_num, by rw [← E3.out], by show _ = _; rw [HIN.out, decide_eq_true HXY.out]; simp, HOY.out, HZY.out, HFY.out⟩
                      case measure => simp [intOf]; omega
                    · have hT0' : (T == 0) = false := by simp [hT0]
                      have HT0 := Lib.hid hT0
                      clear hT0
                      by_cases hxT : x.1 < T
                      · have e3 := H5.out (.inr hxT)
                        have E3 := Lib.hid e3
                        clear e3 hxy
                        go_wp2_with fail
                        go_roundw
                        case rel => exact ⟨j + 1, true, by omega, by go_num, by rw [← E3.out], by show _ = _; rw [HIN.out, decide_eq_true HXY.out]; simp, HOY.out, HZY.out, HFY.out⟩
                        case measure => simp [intOf]; omega
                      · have hxT' : decide (x.1 < T) = false := by simpa using hxT
                        have e3 : T = inT C0 x.1 true := H6.out (fun h => h.elim HT0.out hxT)
                        have E3 := Lib.hid e3
                        clear e3 hxT hxy
                        go_wp2_with fail
                        go_roundw
                        case rel => exact ⟨j + 1, true, by omega, by go_num, by rw [← E3.out], by show _ = _; rw [HIN.out, decide_eq_true HXY.out]; simp, HOY.out, HZY.out, HFY.out⟩
                        case measure => simp [intOf]; omega
                  · have hxy' : (x.1 == y.1) = false := by simp [hxy]
                    have HXY := Lib.hid hxy
                    clear hxy
                    go_wp2_with fail
                    go_roundw
                    case rel => exact ⟨j + 1, bb, by omega, by go_num, by rw [HTT.out], by show _ = _; rw [HIN.out, decide_eq_false HXY.out]; simp, HOY.out, HZY.out, HFY.out⟩
                    case measure => simp [intOf]; omega
                · obtain rfl : q = j := by omega
                  have HCN : Hid (inT C0 x.1 bb = clashTo l (q + 1)) := by show _ = _; rw [HCK.out, HBB.out]
                  rw [HCN.out]
                  have HO := Lib.hid hown
                  have HF := Lib.hid hF
                  clear hown hF hZ
                  go_wp2_with fail
                  go_roundw
                  case rel => exact ⟨q + 1, by omega, by go_num, rfl, HO.out, HF.out⟩
                  case measure => simp [intOf]; omega
            · obtain rfl : n = q := by omega
              have HF2 := Lib.hid hF
              have HM2 := Lib.hid hown
              have HHR := Lib.hid HRW.out
              clear hF hown HRW
              obtain ⟨C, hC⟩ : ∃ C, clashTo l n = C := ⟨_, rfl⟩
              rw [hC] at HC
              rw [hC]
              by_cases hc : C = 0
              · have hcc : (C != 0) = false := by simp [hc]
                have HC0 : Hid (unC b o t = 0) := by show _ = _; rw [HC.out, hc]
                clear hC hc HC
                obtain ⟨b0, b1⟩ := HF2.out.b.c2
                obtain ⟨o0, o1⟩ := HF2.out.o.c2
                obtain ⟨t0, t1⟩ := HF2.out.t.c2
                have hz2 := HF2.out.size
                have hbs := HF2.out.below
                go_wp2_with fail
                refine (nums_any B _ _ _ _ _ _ _ _ _ b.1 o.1 t.1 _ (hb1.below (hbs.mono hB)) (ho1.below (hbs.mono hB)) (ht1.below (hbs.mono hB)) (by omega) (by omega) (by have := hbs.size; omega)).mono ?_
                rintro e w3 ⟨r3, A3, c3, rfl, p1, p2⟩
                have HF3 := Lib.hid (HF2.out.on p2)
                have HM3 := Lib.hid (HM2.out.below p2 HM2.out.lt)
                have HP3 := Lib.hid p1
                have han : allN b.1 o.1 t.1 ≤ 1000000 := by have := HN1.out; omega
                clear HF2 HM2 b0 b1 o0 o1 t0 t1 hz2 hbs p1 p2
                go_wp2_with fail
                refine (rmake_any _ _ _ _ _ _ _ (allL b.1 o.1 t.1) l _ HP3.out.rd HM3.out.rd han (by omega) (Nat.le_refl _)).mono ?_
                rintro e w4 ⟨r4, A4, c4, r5, A5, c5, rfl, q1, q2, q5, q6, q7⟩
                have HF4 := Lib.hid (HF3.out.on q5)
                obtain ⟨es', hes⟩ : ∃ es', makeTo Prod.fst l n = es' := ⟨_, rfl⟩
                have HE : Hid (unG b o t = es') := by show makeTo _ _ _ = _; rw [HL.out, HLN.out]; exact hes
                rw [hes] at q2
                obtain ⟨V, hV⟩ : ∃ V, makeTo id (allL b.1 o.1 t.1) (allN b.1 o.1 t.1) = V := ⟨_, rfl⟩
                have HVV : Hid (unV b o t = V) := hV
                rw [hV] at q1
                obtain ⟨nV, hnV⟩ : ∃ nV, mkN id (allL b.1 o.1 t.1) (allN b.1 o.1 t.1) = nV := ⟨_, rfl⟩
                obtain ⟨nE, hnE⟩ : ∃ nE, mkN Prod.fst l n = nE := ⟨_, rfl⟩
                rw [hnV] at q1
                rw [hnE] at q2
                rw [hnV, hnE]
                have hel := q2.len
                have hvl := q1.len
                have HNV := Lib.hid hvl
                have HEL := Lib.hid hel
                have HQ1 := Lib.hid q1
                have HQ2 := Lib.hid q2
                have hr4 : ∀ g, r4 = some g → w.heap.size + 4 ≤ g := fun g e => Nat.le_trans HF3.out.size (q6 g e)
                have hr5 : ∀ g, r5 = some g → w.heap.size + 4 ≤ g := fun g e => Nat.le_trans HF3.out.size (q7 g e)
                have hvb := q1.rd.bd
                have heb := q2.rd.bd
                have hF4s := HF4.out.size
                have HF5 := Lib.hid (HF4.out.alloc (.cells #[.slice A4 nV c4, .slice A5 nE c5] 25))
                have HX5 := Lib.hid (Blk.new w4 25 #[.slice A4 nV c4, .slice A5 nE c5])
                have HQ3 := Lib.hid (HQ1.out.alloc (.cells #[.slice A4 nV c4, .slice A5 nE c5] 25))
                have HQ4 := Lib.hid (HQ2.out.alloc (.cells #[.slice A4 nV c4, .slice A5 nE c5] 25))
                clear q1 q2 q5 q6 q7 hes hV hnV hnE hel hvl HF3 HM3 HP3 HF4 HQ1 HQ2
                go_wp2_with fail
                go_loopw [21, 117] (fun _ i wr => ∃ k : Nat, k ≤ nE ∧ i = .int .i64 k ∧ OfFr w wr (.slice Ab nb cb) (.slice Ab' nb' cb') (.slice Ao no co) (.slice Ao' no' co') (.slice At nt ct) (.slice At' nt' ct') ∧ Blk wr w4.heap.size 25 #[.slice A4 nV c4, .slice A5 nE c5] ∧ OwnU wr r4 A4 nV c4 V ∧ OwnE wr r5 A5 nE c5 es' ∧ Hid (dang V (es'.take k) = none)) (fun _ i _ => nE - (intOf i).toNat)
                case atStart => exact ⟨0, by omega, rfl, HF5.out, HX5.out, HQ3.out, HQ4.out, by show _ = _; simp [dang]⟩
                case round =>
                  clear HF5 HX5 HQ3 HQ4
                  obtain ⟨k, hk, rfl, hF, hX, hQV, hQE, hD⟩ := hrel
                  by_cases hlt : k < nE
                  · obtain ⟨ad, x, rfl, hbl, hx, hxb, hc1, hc2, hc3⟩ := hQE.rd.at_ hlt
                    have HX := Lib.hid hx
                    have hb6 := (Below.refl wr.heap.size wr).alloc (Nat.le_refl _) (.cells #[.int .u32 x.1, .int .u32 x.2.1, .int .u32 x.2.2] 39)
                    have HF6 := Lib.hid (hF.on hb6)
                    have HX6 := Lib.hid (hX.below hb6 hX.lt)
                    have hsz := hX.lt
                    have HV6 := Lib.hid (hQV.below hb6 hQV.lt)
                    have HE6 := Lib.hid (hQE.below hb6 hQE.lt)
                    have HZ6 := Lib.hid (Blk.new wr 39 #[.int .u32 x.1, .int .u32 x.2.1, .int .u32 x.2.2])
                    obtain ⟨x0, x1⟩ := hX.c2
                    clear hx hF hX hQV hQE hb6
                    go_wp2_with fail
                    refine (has_any _ _ _ _ V _ x.2.1 _ HV6.out.rd (Nat.le_refl _)).mono ?_
                    rintro e w6 ⟨rfl, B6⟩
                    have hb6 := B6.size
                    simp only [World.size_alloc] at hb6
                    have hF7 := HF6.out.on B6
                    have HF7 := Lib.hid hF7
                    have hX7 := HX6.out.below B6 HX6.out.lt
                    have HX7 := Lib.hid hX7
                    have HV7 := Lib.hid (HV6.out.below B6 HV6.out.lt)
                    have HE7 := Lib.hid (HE6.out.below B6 HE6.out.lt)
                    have hZ7 := HZ6.out.below B6 HZ6.out.lt
                    have HZ7 := Lib.hid hZ7
                    obtain ⟨x0, x1⟩ := hX7.c2
                    obtain ⟨z0, z1, z2⟩ := hZ7.c3
                    have hzl := hZ7.lt
                    have hxl := hX7.lt
                    clear B6 hF7 hX7 hZ7 HF6 HX6 HV6 HE6 HZ6
                    cases hA : hasB V x.2.1
                    · have HA := Lib.hid hA
                      clear hA
                      have hr := HF7.out.r
                      have f0 := hr.frozen 0
                      have f1 := hr.frozen 1
                      obtain ⟨r0, r1⟩ := hr.c2
                      have hrl := hr.lt
                      have HRS : Hid (unR b o t = (([], []), x.1, 27)) := unR_dang HC0.out (by rw [HVV.out, HE.out]; exact dang_hit HX.out hD.out (by simp [okEnds, HA.out]))
                      go_wp2_with fail
                      go_region
                      go_wp2_with fail
                      refine bodyPost_ret (v := .tuple #[.agg #[.slice none 0 0, .slice none 0 0], .int .u32 x.1, .int .i64 27]) (by simp [results, Try.results35, go_sem, r0, r1]) rfl ?_
                      refine ⟨.agg #[.slice none 0 0, .slice none 0 0], by rw [HRS.out], ?_, (HF7.out.below.drew.setCell (by simp; omega) _).setCell (by simp; omega) _⟩
                      rw [HRS.out]
                      exact RdG.nil_ _
                    · have HA := Lib.hid hA
                      clear hA
                      go_wp2_with fail
                      refine (has_any _ _ _ _ V _ x.2.2 _ HV7.out.rd (Nat.le_refl _)).mono ?_
                      rintro e w7 ⟨rfl, B7⟩
                      have hF8 := HF7.out.on B7
                      have HF8 := Lib.hid hF8
                      have hX8 := HX7.out.below B7 HX7.out.lt
                      have HX8 := Lib.hid hX8
                      have HV8 := Lib.hid (HV7.out.below B7 HV7.out.lt)
                      have HE8 := Lib.hid (HE7.out.below B7 HE7.out.lt)
                      have hZ8 := HZ7.out.below B7 HZ7.out.lt
                      have HZ8 := Lib.hid hZ8
                      obtain ⟨x0, x1⟩ := hX8.c2
                      obtain ⟨z0, z1, z2⟩ := hZ8.c3
                      have hzl := hZ8.lt
                      have hxl := hX8.lt
                      clear B7 hF8 hX8 hZ8 HF7 HX7 HV7 HE7 HZ7
                      cases hA2 : hasB V x.2.2
                      · have HA2 := Lib.hid hA2
                        clear hA2
                        have hr := HF8.out.r
                        have f0 := hr.frozen 0
                        have f1 := hr.frozen 1
                        obtain ⟨r0, r1⟩ := hr.c2
                        have hrl := hr.lt
                        have HRS : Hid (unR b o t = (([], []), x.1, 27)) := unR_dang HC0.out (by rw [HVV.out, HE.out]; exact dang_hit HX.out hD.out (by simp [okEnds, HA2.out]))
                        go_wp2_with fail
                        go_region
                        go_wp2_with fail
                        refine bodyPost_ret (v := .tuple #[.agg #[.slice none 0 0, .slice none 0 0], .int .u32 x.1, .int .i64 27]) (by simp [results, Try.results35, go_sem, r0, r1]) rfl ?_
                        refine ⟨.agg #[.slice none 0 0, .slice none 0 0], by rw [HRS.out], ?_, (HF8.out.below.drew.setCell (by simp; omega) _).setCell (by simp; omega) _⟩
                        rw [HRS.out]
                        exact RdG.nil_ _
                      · have HA2 := Lib.hid hA2
                        clear hA2
                        go_wp2_with fail
                        go_roundw
                        case rel => exact ⟨k + 1, by omega, by go_num, HF8.out, HX8.out, HV8.out, HE8.out, by show _ = _; exact dang_take HX.out hD.out (by simp [okEnds, HA.out, HA2.out])⟩
                        case measure => simp [intOf]; omega
                  · obtain rfl : k = nE := by omega
                    have HDN : Hid (dang (unV b o t) (unG b o t) = none) := by
                      show _ = _
                      rw [HVV.out, HE.out]
                      have := hD.out
                      rwa [List.take_of_length_le (by rw [HEL.out]; exact Nat.le_refl _)] at this
                    have hr := hF.r
                    have f0 := hr.frozen 0
                    have f1 := hr.frozen 1
                    obtain ⟨r0, r1⟩ := hr.c2
                    obtain ⟨x0, x1⟩ := hX.c2
                    have hrl := hr.lt
                    have hxl := hX.lt
                    have hFs := hF.size
                    have HF := Lib.hid hF
                    have HQV := Lib.hid hQV
                    have HQE := Lib.hid hQE
                    clear hF hQV hQE hX hr
                    by_cases h64 : 64 < nV
                    · have h64' : (64 : Int) < nV := by omega
                      have HRS : Hid (unR b o t = (([], []), 0, 6)) := unR_many HC0.out HDN.out (by rw [HVV.out, HE.out, HNV.out, HEL.out]; omega)
                      go_wp2_with fail
                      refine bodyPost_ret (v := .tuple #[.agg #[.slice none 0 0, .slice none 0 0], .int .u32 0, .int .i64 6]) (by simp [results, Try.results35, go_sem, r0, r1]) rfl ?_
                      refine ⟨.agg #[.slice none 0 0, .slice none 0 0], by rw [HRS.out], ?_, (HF.out.below.setCell (by simp; omega) _).setCell (by simp; omega) _⟩
                      rw [HRS.out]
                      exact RdG.nil_ _
                    · have h64' : decide ((64 : Int) < nV) = false := by simp; omega
                      by_cases h160 : 160 < k
                      · have h160' : (160 : Int) < k := by omega
                        have HRS : Hid (unR b o t = (([], []), 0, 6)) := unR_many HC0.out HDN.out (by rw [HVV.out, HE.out, HNV.out, HEL.out]; omega)
                        go_wp2_with fail
                        refine bodyPost_ret (v := .tuple #[.agg #[.slice none 0 0, .slice none 0 0], .int .u32 0, .int .i64 6]) (by simp [results, Try.results35, go_sem, r0, r1]) rfl ?_
                        refine ⟨.agg #[.slice none 0 0, .slice none 0 0], by rw [HRS.out], ?_, (HF.out.below.setCell (by simp; omega) _).setCell (by simp; omega) _⟩
                        rw [HRS.out]
                        exact RdG.nil_ _
                      · have h160' : decide ((160 : Int) < k) = false := by simp; omega
                        have HRS : Hid (unR b o t = ((V, es'), 0, 0)) := by
                          have := unR_all HC0.out HDN.out (by rw [HVV.out, HNV.out]; omega) (by rw [HE.out, HEL.out]; omega)
                          rw [HVV.out, HE.out] at this
                          exact this
                        go_wp2_with fail
                        refine bodyPost_ret (v := .tuple #[.agg #[.slice A4 nV c4, .slice A5 k c5], .int .u32 0, .int .i64 0]) (by simp [results, Try.results35, go_sem, r0, r1]) rfl ?_
                        refine ⟨.agg #[.slice A4 nV c4, .slice A5 k c5], by rw [HRS.out], ?_, (HF.out.below.setCell (by simp; omega) _).setCell (by simp; omega) _⟩
                        rw [HRS.out]
                        exact ⟨A4, nV, c4, A5, k, c5, rfl, ((HQV.out.setCell_far (fun g e => by have := hr4 g e; simp; omega) _).setCell_far (fun g e => by have := hr4 g e; simp; omega) _).rd, ((HQE.out.setCell_far (fun g e => by have := hr5 g e; simp; omega) _).setCell_far (fun g e => by have := hr5 g e; simp; omega) _).rd⟩
              · have hcc : (C != 0) = true := by simp [hc]
                have hr := HF2.out.r
                have f0 := hr.frozen 0
                have f1 := hr.frozen 1
                obtain ⟨r0, r1⟩ := hr.c2
                have hrl := hr.lt
                have HRS : Hid (unR b o t = (([], []), C, 26)) := by
                  have h := HC.out
                  have q := unR_clash (b := b) (o := o) (t := t) (by rw [h]; exact hc)
                  rw [h] at q
                  exact q
                go_wp2_with fail
                refine bodyPost_ret (v := .tuple #[.agg #[.slice none 0 0, .slice none 0 0], .int .u32 C, .int .i64 26]) (by simp [results, Try.results35, go_sem, r0, r1]) rfl ?_
                refine ⟨.agg #[.slice none 0 0, .slice none 0 0], by rw [HRS.out], ?_, (HF2.out.below.setCell (by simp; omega) _).setCell (by simp; omega) _⟩
                rw [HRS.out]
                exact RdG.nil_ _
end Go.Proofs.Ytklmckbpbloonaa
