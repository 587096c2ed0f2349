/- Walks: layer 18, the references' numbers. -/
import Derived.Test.YtklmckbpbloonaaUnionB
namespace Go.Proofs.Ytklmckbpbloonaa
open Go.RowKit

set_option maxRecDepth 100000 in
set_option maxHeartbeats 4000000 in
theorem nums_any (B : Nat) (Ab Ao At : Option Addr) (nb cb no co nt ct : Nat) (base ours theirs : List Int) (w : World) (hb : RdU w B Ab nb cb base) (ho : RdU w B Ao no co ours) (ht : RdU w B At nt ct theirs) (hno : no ≤ 1000000) (hnt : nt ≤ 1000000) (hB : B ≤ w.heap.size) :
    Calls Try.prog 29 #[.slice Ab nb cb, .slice Ao no co, .slice At nt ct] w fun e w' => ∃ r A c, e = .returned (.slice A (allN base ours theirs) c) ∧ OwnU w' r A (allN base ours theirs) c (allL base ours theirs) ∧ Below w.heap.size w w' := by
  obtain ⟨hno', hco⟩ := ho.bd
  obtain ⟨hnt', hct⟩ := ht.bd
  have HLo := Lib.hid ho.len
  have HLt := Lib.hid ht.len
  go_enter Try.func29, Try.ntmps29
  go_wp2_with fail
  go_loopw [7, 14] (fun o i wr => ∃ (k : Nat) (r : Option Nat) (A : Option Addr) (c : Nat), k ≤ no ∧ i = .int .i64 k ∧ o = .slice A (fltN ours (pA base theirs) k) c ∧ OwnU wr r A (fltN ours (pA base theirs) k) c (fltTo ours (pA base theirs) k) ∧ (∀ g, r = some g → w.heap.size ≤ g) ∧ Below w.heap.size w wr) (fun _ i _ => no - (intOf i).toNat)
  case atStart => exact ⟨0, none, none, 0, by omega, rfl, by simp [fltN, fltTo], by simpa [fltN, fltTo] using OwnU.nil_ _ _, by simp, Below.refl _ _⟩
  case round =>
    obtain ⟨k, r, A, c, hk, rfl, rfl, hown, hr, hbr⟩ := hrel
    have hqb := hb.below (hbr.mono hB)
    have hqo := ho.below (hbr.mono hB)
    have hqt := ht.below (hbr.mono hB)
    have hle := fltN_le ours (pA base theirs) k
    by_cases hlt : k < no
    · obtain ⟨ad, x, rfl, hbl, hx, hxb, hc1⟩ := hqo.at_ hlt
      have HN : Hid (fltN ours (pA base theirs) (k + 1) = fltN ours (pA base theirs) k + if pA base theirs x then 1 else 0) := fltN_succ hx
      have HT : Hid (fltTo ours (pA base theirs) (k + 1) = fltTo ours (pA base theirs) k ++ if pA base theirs x then [x] else []) := fltTo_succ hx
      have HO := Lib.hid hown
      clear hx hown
      cases h1 : hasB theirs x
      · have H1 := Lib.hid h1
        clear h1
        have g1 := idx_hasnt H1.out; have g1' : decide (0 ≤ idx theirs x) = false := by simp; omega
        cases h2 : hasB base x
        · have H2 := Lib.hid h2
          clear h2
          have g2 := idx_hasnt H2.out; have g2' : decide (0 ≤ idx base x) = false := by simp; omega
          go_wp2_with (first
            | (go_at_call 30; refine (rfind_any B _ _ _ _ x _ (by first | exact hqb | exact hqt | exact hqo)).mono ?_; rintro e w' ⟨rfl, rfl⟩)
            | (go_at_call 65; refine (belongs_any _ _ _ _).mono ?_; rintro e w' ⟨rfl, rfl⟩)
            | (at_builtin; refine appU1 rfl (.tmp 27) (.tmp 29) rfl _ r _ _ c (fltTo ours (pA base theirs) k) rfl (HO.out.alloc _) wr.heap.size x rfl (Blk.new _ _ _) hxb (by omega) ?_; intro r3 A3 c3 w3 m1 m2 m3))
          go_roundw
          case rel =>
            have hp : pA base theirs x = true := by simp [pA, H1.out, H2.out]
            have hr3 : ∀ g, r3 = some g → w.heap.size ≤ g := fun g e => by
              rcases m3 with h3 | h3
              · exact hr g (by rw [← h3, e])
              · have a1 := h3 g e; have a2 := hbr.size; simp only [World.size_alloc] at a1; omega
            exact ⟨k + 1, r3, A3, c3, by omega, by go_num, by rw [HN.out, hp]; rfl, by rw [HN.out, HT.out, hp]; exact m1, hr3, (hbr.alloc hbr.size _).grown m2 (by have := hbr.size; simp; omega) (fun g e => hr g e)⟩
          case measure => simp [intOf]; omega
        · have H2 := Lib.hid h2
          clear h2
          have g2 := idx_has H2.out
          go_wp2_with (first
            | (go_at_call 30; refine (rfind_any B _ _ _ _ x _ (by first | exact hqb | exact hqt | exact hqo)).mono ?_; rintro e w' ⟨rfl, rfl⟩)
            | (go_at_call 65; refine (belongs_any _ _ _ _).mono ?_; rintro e w' ⟨rfl, rfl⟩))
          go_roundw
          case rel =>
            have hp : pA base theirs x = false := by simp [pA, H1.out, H2.out]
            exact ⟨k + 1, r, A, c, by omega, by go_num, by rw [HN.out, hp]; rfl, by rw [HN.out, HT.out, hp]; simpa using HO.out, hr, hbr⟩
          case measure => simp [intOf]; omega
      · have H1 := Lib.hid h1
        clear h1
        have g1 := idx_has H1.out
        cases h2 : hasB base x
        · have H2 := Lib.hid h2
          clear h2
          have g2 := idx_hasnt H2.out; have g2' : decide (0 ≤ idx base x) = false := by simp; omega
          go_wp2_with (first
            | (go_at_call 30; refine (rfind_any B _ _ _ _ x _ (by first | exact hqb | exact hqt | exact hqo)).mono ?_; rintro e w' ⟨rfl, rfl⟩)
            | (go_at_call 65; refine (belongs_any _ _ _ _).mono ?_; rintro e w' ⟨rfl, rfl⟩)
            | (at_builtin; refine appU1 rfl (.tmp 27) (.tmp 29) rfl _ r _ _ c (fltTo ours (pA base theirs) k) rfl (HO.out.alloc _) wr.heap.size x rfl (Blk.new _ _ _) hxb (by omega) ?_; intro r3 A3 c3 w3 m1 m2 m3))
          go_roundw
          case rel =>
            have hp : pA base theirs x = true := by simp [pA, H1.out, H2.out]
            have hr3 : ∀ g, r3 = some g → w.heap.size ≤ g := fun g e => by
              rcases m3 with h3 | h3
              · exact hr g (by rw [← h3, e])
              · have a1 := h3 g e; have a2 := hbr.size; simp only [World.size_alloc] at a1; omega
            exact ⟨k + 1, r3, A3, c3, by omega, by go_num, by rw [HN.out, hp]; rfl, by rw [HN.out, HT.out, hp]; exact m1, hr3, (hbr.alloc hbr.size _).grown m2 (by have := hbr.size; simp; omega) (fun g e => hr g e)⟩
          case measure => simp [intOf]; omega
        · have H2 := Lib.hid h2
          clear h2
          have g2 := idx_has H2.out
          go_wp2_with (first
            | (go_at_call 30; refine (rfind_any B _ _ _ _ x _ (by first | exact hqb | exact hqt | exact hqo)).mono ?_; rintro e w' ⟨rfl, rfl⟩)
            | (go_at_call 65; refine (belongs_any _ _ _ _).mono ?_; rintro e w' ⟨rfl, rfl⟩)
            | (at_builtin; refine appU1 rfl (.tmp 27) (.tmp 29) rfl _ r _ _ c (fltTo ours (pA base theirs) k) rfl (HO.out.alloc _) wr.heap.size x rfl (Blk.new _ _ _) hxb (by omega) ?_; intro r3 A3 c3 w3 m1 m2 m3))
          go_roundw
          case rel =>
            have hp : pA base theirs x = true := by simp [pA, H1.out, H2.out]
            have hr3 : ∀ g, r3 = some g → w.heap.size ≤ g := fun g e => by
              rcases m3 with h3 | h3
              · exact hr g (by rw [← h3, e])
              · have a1 := h3 g e; have a2 := hbr.size; simp only [World.size_alloc] at a1; omega
            exact ⟨k + 1, r3, A3, c3, by omega, by go_num, by rw [HN.out, hp]; rfl, by rw [HN.out, HT.out, hp]; exact m1, hr3, (hbr.alloc hbr.size _).grown m2 (by have := hbr.size; simp; omega) (fun g e => hr g e)⟩
          case measure => simp [intOf]; omega
    · obtain rfl : k = no := by omega
      obtain ⟨wo, rfl⟩ : ∃ wo : World, wo = wr := ⟨_, rfl⟩
      rw [← allTN_zero] at hown ⊢
      rw [← allTo_zero] at hown
      have HOW := Lib.hid hown
      clear hown
      go_wp2_with fail
      go_loopw [7, 34] (fun o i wr => ∃ (m : Nat) (r : Option Nat) (A : Option Addr) (c : Nat), m ≤ nt ∧ i = .int .i64 m ∧ o = .slice A (allTN base ours theirs k m) c ∧ OwnU wr r A (allTN base ours theirs k m) c (allTo base ours theirs k m) ∧ (∀ g, r = some g → w.heap.size ≤ g) ∧ Below w.heap.size w wr) (fun _ i _ => nt - (intOf i).toNat)
      case atStart => exact ⟨0, r, A, c, by omega, rfl, rfl, HOW.out, hr, hbr⟩
      case round =>
        clear HOW hr hbr hqb hqo hqt hle
        obtain ⟨m, r, A, c, hm, rfl, rfl, hown, hr, hbr⟩ := hrel
        have hqb := hb.below (hbr.mono hB)
        have hqo := ho.below (hbr.mono hB)
        have hqt := ht.below (hbr.mono hB)
        have hle1 := fltN_le ours (pA base theirs) k
        have hle2 := fltN_le theirs (pB base ours) m
        have hle : allTN base ours theirs k m ≤ 2000000 := by unfold allTN; omega
        clear hle1 hle2
        by_cases hlt2 : m < nt
        · obtain ⟨ad, x, rfl, hbl, hx, hxb, hc1⟩ := hqt.at_ hlt2
          have HN : Hid (allTN base ours theirs k (m + 1) = allTN base ours theirs k m + if pB base ours x then 1 else 0) := by
            show _ = _; unfold allTN; rw [fltN_succ hx]; omega
          have HT : Hid (allTo base ours theirs k (m + 1) = allTo base ours theirs k m ++ if pB base ours x then [x] else []) := by
            show _ = _; unfold allTo; rw [fltTo_succ hx]; simp
          have HO := Lib.hid hown
          clear hx hown
          cases h1 : hasB ours x
          · have H1 := Lib.hid h1
            clear h1
            have g1 := idx_hasnt H1.out; have g1' : decide (0 ≤ idx ours x) = false := by simp; omega
            cases h2 : hasB base x
            · have H2 := Lib.hid h2
              clear h2
              have g2 := idx_hasnt H2.out; have g2' : decide (0 ≤ idx base x) = false := by simp; omega
              go_wp2_with (first
                | (go_at_call 30; refine (rfind_any B _ _ _ _ x _ (by first | exact hqb | exact hqt | exact hqo)).mono ?_; rintro e w' ⟨rfl, rfl⟩)
                | (go_at_call 65; refine (belongs_any _ _ _ _).mono ?_; rintro e w' ⟨rfl, rfl⟩)
                | (at_builtin; refine appU1 rfl (.tmp 49) (.tmp 51) rfl _ r _ _ c (allTo base ours theirs k m) rfl (HO.out.alloc _) wr.heap.size x rfl (Blk.new _ _ _) hxb (by omega) ?_; intro r3 A3 c3 w3 m1 m2 m3))
              go_roundw
              case rel =>
                have hp : pB base ours x = true := by simp [pB, H1.out, H2.out]
                have hr3 : ∀ g, r3 = some g → w.heap.size ≤ g := fun g e => by
                  rcases m3 with h3 | h3
                  · exact hr g (by rw [← h3, e])
                  · have a1 := h3 g e; have a2 := hbr.size; simp only [World.size_alloc] at a1; omega
                exact ⟨m + 1, r3, A3, c3, by omega, by go_num, by rw [HN.out, hp]; rfl, by rw [HN.out, HT.out, hp]; exact m1, hr3, (hbr.alloc hbr.size _).grown m2 (by have := hbr.size; simp; omega) (fun g e => hr g e)⟩
              case measure => simp [intOf]; omega
            · have H2 := Lib.hid h2
              clear h2
              have g2 := idx_has H2.out
              go_wp2_with (first
                | (go_at_call 30; refine (rfind_any B _ _ _ _ x _ (by first | exact hqb | exact hqt | exact hqo)).mono ?_; rintro e w' ⟨rfl, rfl⟩)
                | (go_at_call 65; refine (belongs_any _ _ _ _).mono ?_; rintro e w' ⟨rfl, rfl⟩))
              go_roundw
              case rel =>
                have hp : pB base ours x = false := by simp [pB, H1.out, H2.out]
                exact ⟨m + 1, r, A, c, by omega, by go_num, by rw [HN.out, hp]; rfl, by rw [HN.out, HT.out, hp]; simpa using HO.out, hr, hbr⟩
              case measure => simp [intOf]; omega
          · have H1 := Lib.hid h1
            clear h1
            have g1 := idx_has H1.out
            go_wp2_with (first
              | (go_at_call 30; refine (rfind_any B _ _ _ _ x _ (by first | exact hqb | exact hqt | exact hqo)).mono ?_; rintro e w' ⟨rfl, rfl⟩))
            go_roundw
            case rel =>
              have hp : pB base ours x = false := by simp [pB, H1.out]
              exact ⟨m + 1, r, A, c, by omega, by go_num, by rw [HN.out, hp]; rfl, by rw [HN.out, HT.out, hp]; simpa using HO.out, hr, hbr⟩
            case measure => simp [intOf]; omega
        · obtain rfl : m = nt := by omega
          go_wp2_with fail
          go_ret
          have e1 := allTo_all base ours theirs HLo.out HLt.out
          have e2 : allTN base ours theirs k m = allN base ours theirs := by rw [← allTo_len, e1]; rfl
          rw [e1, e2] at hown
          exact ⟨r, A, c, by show Ending.returned (Value.slice A (allTN base ours theirs k m) c) = _; rw [e2], hown, hbr⟩
end Go.Proofs.Ytklmckbpbloonaa
