/- Walks: layer 18, three rows of numbers: what they come to. -/
import Derived.Test.YtklmckbpbloonaaRefA
import Derived.Test.YtklmckbpbloonaaDart
import Derived.Deep.QuietTactic
import Derived.BigQuiet
import Derived.Shelf.Abstract
namespace Go.Proofs.Ytklmckbpbloonaa
open Go.RowKit

theorem hasB_idx (xs : List Int) (x : Int) : decide (0 ≤ idx xs x) = hasB xs x := by
  unfold hasB idx
  by_cases h : x ∈ xs
  · rw [if_pos h]; simp [h]
  · rw [if_neg h]; simp [h]
theorem contains_any (B : Nat) (A : Option Addr) (n c : Nat) (xs : List Int) (x : Int) (w : World) (h : RdU w B A n c xs) :
    Calls Try.prog 52 #[.slice A n c, .int .u32 x] w fun e w' => e = .returned (.bool (hasB xs x)) ∧ w = w' := by
  go_enter Try.func52, Try.ntmps52
  go_wp2_with (go_at_call 59; refine (index_any B _ _ _ xs _ _ h).mono ?_; rintro e w' ⟨rfl, rfl⟩)
  go_ret
  exact ⟨ret_bool (by rw [← hasB_idx]), rfl⟩
theorem has1_any (B : Nat) (A : Option Addr) (n c : Nat) (xs : List Int) (x : Int) (w : World) (h : RdU w B A n c xs) :
    Calls Try.prog 66 #[.slice A n c, .int .u32 x] w fun e w' => e = .returned (.bool (hasB xs x)) ∧ w = w' := by
  go_enter Try.func66, Try.ntmps66
  go_wp2_with (go_at_call 52; refine (contains_any B _ _ _ xs _ _ h).mono ?_; rintro e w' ⟨rfl, rfl⟩)
  go_ret
  exact ⟨rfl, rfl⟩
/-- What is kept of a row, behind k. -/
def fltTo (xs : List Int) (p : Int → Bool) (k : Nat) : List Int := (xs.take k).filter p
def fltN (xs : List Int) (p : Int → Bool) (k : Nat) : Nat := (fltTo xs p k).length
theorem fltTo_succ {xs : List Int} {p : Int → Bool} {k : Nat} {x : Int} (h : xs[k]? = some x) : fltTo xs p (k + 1) = fltTo xs p k ++ if p x then [x] else [] := by
  unfold fltTo; rw [take_at h, List.filter_append]
  congr 1
  cases hp : p x <;> simp [hp]
theorem fltN_succ {xs : List Int} {p : Int → Bool} {k : Nat} {x : Int} (h : xs[k]? = some x) : fltN xs p (k + 1) = fltN xs p k + if p x then 1 else 0 := by
  unfold fltN; rw [fltTo_succ h]; cases hp : p x <;> simp
theorem fltN_le (xs : List Int) (p : Int → Bool) (k : Nat) : fltN xs p k ≤ k := by
  have h1 := List.length_filter_le p (xs.take k)
  have h2 := List.length_take_le k xs
  unfold fltN fltTo; omega
theorem fltTo_all (xs : List Int) (p : Int → Bool) {n : Nat} (hn : xs.length = n) : fltTo xs p n = xs.filter p := by subst hn; unfold fltTo; rw [List.take_length]
def pA (base theirs : List Int) (x : Int) : Bool := hasB theirs x || !hasB base x
def pB (base ours : List Int) (x : Int) : Bool := !hasB ours x && !hasB base x
def allL (base ours theirs : List Int) : List Int := ours.filter (pA base theirs) ++ theirs.filter (pB base ours)
def allTo (base ours theirs : List Int) (n m : Nat) : List Int := fltTo ours (pA base theirs) n ++ fltTo theirs (pB base ours) m
def allTN (base ours theirs : List Int) (n m : Nat) : Nat := fltN ours (pA base theirs) n + fltN theirs (pB base ours) m
theorem allTo_len (base ours theirs : List Int) (n m : Nat) : (allTo base ours theirs n m).length = allTN base ours theirs n m := by simp [allTo, allTN, fltN]
theorem allTo_all (base ours theirs : List Int) {n m : Nat} (hn : ours.length = n) (hm : theirs.length = m) : allTo base ours theirs n m = allL base ours theirs := by
  unfold allTo allL; rw [fltTo_all _ _ hn, fltTo_all _ _ hm]
theorem allTo_zero (base ours theirs : List Int) (n : Nat) : allTo base ours theirs n 0 = fltTo ours (pA base theirs) n := by simp [allTo, fltTo]
theorem allTN_zero (base ours theirs : List Int) (n : Nat) : allTN base ours theirs n 0 = fltN ours (pA base theirs) n := by simp [allTN, fltN, fltTo]
def allN (base ours theirs : List Int) : Nat := (allL base ours theirs).length
set_option maxRecDepth 100000 in
set_option maxHeartbeats 4000000 in
theorem all_any (B : Nat) (Ab Ao At : Option Addr) (nb cb no co nt ct : Nat) (base ours theirs : List Int) (w : World) (hb : RdU w B Ab nb cb base) (ho : RdU w B Ao no co ours) (ht : RdU w B At nt ct theirs) (hno : no ≤ 1000000) (hnt : nt ≤ 1000000) (hB : B ≤ w.heap.size) :
    Calls Try.prog 32 #[.agg #[.slice Ab nb cb, .slice Ao no co, .slice At nt ct]] w fun e w' => ∃ r A c, e = .returned (.slice A (allN base ours theirs) c) ∧ OwnU w' r A (allN base ours theirs) c (allL base ours theirs) ∧ Below w.heap.size w w' := by
  obtain ⟨hno', hco⟩ := ho.bd
  obtain ⟨hnt', hct⟩ := ht.bd
  have HLo := Lib.hid ho.len
  have HLt := Lib.hid ht.len
  have hX0 := Blk.new w 46 #[.slice Ab nb cb, .slice Ao no co, .slice At nt ct]
  have HB0 := Lib.hid ((Below.refl w.heap.size w).alloc (Nat.le_refl _) (.cells #[.slice Ab nb cb, .slice Ao no co, .slice At nt ct] 46))
  go_enter Try.func32, Try.ntmps32
  go_wp2_with fail
  go_loopw [4, 12] (fun o i wr => ∃ (k : Nat) (r : Option Nat) (A : Option Addr) (c : Nat), k ≤ no ∧ i = .int .i64 k ∧ o = .slice A (fltN ours (pA base theirs) k) c ∧ OwnU wr r A (fltN ours (pA base theirs) k) c (fltTo ours (pA base theirs) k) ∧ (∀ g, r = some g → w.heap.size < g) ∧ Below w.heap.size w wr ∧ Blk wr w.heap.size 46 #[.slice Ab nb cb, .slice Ao no co, .slice At nt ct]) (fun _ i _ => no - (intOf i).toNat)
  case atStart => exact ⟨0, none, none, 0, by omega, rfl, by simp [fltN, fltTo], by simpa [fltN, fltTo] using OwnU.nil_ _ _, by simp, HB0.out, hX0⟩
  case round =>
    clear hX0 HB0
    obtain ⟨k, r, A, c, hk, rfl, rfl, hown, hr, hbr, hX⟩ := hrel
    have hqb := hb.below (hbr.mono hB)
    have hqo := ho.below (hbr.mono hB)
    have hqt := ht.below (hbr.mono hB)
    obtain ⟨hx0, hx1, hx2⟩ := hX.c3
    have hsz := hX.lt
    have hle := fltN_le ours (pA base theirs) k
    by_cases hlt : k < no
    · obtain ⟨ad, x, rfl, hbl, hx, hxb, hc1⟩ := hqo.at_ hlt
      have HN : Hid (fltN ours (pA base theirs) (k + 1) = fltN ours (pA base theirs) k + if pA base theirs x then 1 else 0) := fltN_succ hx
      have HT : Hid (fltTo ours (pA base theirs) (k + 1) = fltTo ours (pA base theirs) k ++ if pA base theirs x then [x] else []) := fltTo_succ hx
      have HO := Lib.hid hown
      clear hx hown
      cases h1 : hasB theirs x
      · have H1 := Lib.hid h1
        clear h1
        cases h2 : hasB base x
        · have H2 := Lib.hid h2
          clear h2
          go_wp2_with (first
            | (go_at_call 66; refine (has1_any B _ _ _ theirs x _ hqt).mono ?_; rintro e w' ⟨rfl, rfl⟩; rw [H1.out])
            | (go_at_call 66; refine (has1_any B _ _ _ base x _ hqb).mono ?_; rintro e w' ⟨rfl, rfl⟩; rw [H2.out])
            | (at_builtin; refine appU1 rfl (.tmp 29) (.tmp 31) rfl _ r _ _ c (fltTo ours (pA base theirs) k) rfl (HO.out.alloc _) wr.heap.size x rfl (Blk.new _ _ _) hxb (by omega) ?_; intro r3 A3 c3 w3 m1 m2 m3))
          go_roundw
          case rel =>
            have hp : pA base theirs x = true := by simp [pA, H1.out, H2.out]
            have hr3 : ∀ g, r3 = some g → w.heap.size < g := fun g e => by
              rcases m3 with h3 | h3
              · exact hr g (by rw [← h3, e])
              · have := h3 g e; simp at this; omega
            exact ⟨k + 1, r3, A3, c3, by omega, by go_num, by rw [HN.out, hp]; rfl, by rw [HN.out, HT.out, hp]; exact m1, hr3, (hbr.alloc hbr.size _).grown m2 (by simp; omega) (fun g e => by have := hr g e; omega), (hX.alloc _).grown m2 (fun e => by have := hr _ e.symm; omega)⟩
          case measure => simp [intOf]; omega
        · have H2 := Lib.hid h2
          clear h2
          go_wp2_with (first
            | (go_at_call 66; refine (has1_any B _ _ _ theirs x _ hqt).mono ?_; rintro e w' ⟨rfl, rfl⟩; rw [H1.out])
            | (go_at_call 66; refine (has1_any B _ _ _ base x _ hqb).mono ?_; rintro e w' ⟨rfl, rfl⟩; rw [H2.out]))
          go_roundw
          case rel =>
            have hp : pA base theirs x = false := by simp [pA, H1.out, H2.out]
            exact ⟨k + 1, r, A, c, by omega, by go_num, by rw [HN.out, hp]; rfl, by rw [HN.out, HT.out, hp]; simpa using HO.out, hr, hbr, hX⟩
          case measure => simp [intOf]; omega
      · have H1 := Lib.hid h1
        clear h1
        go_wp2_with (first
          | (go_at_call 66; refine (has1_any B _ _ _ theirs x _ hqt).mono ?_; rintro e w' ⟨rfl, rfl⟩; rw [H1.out])
          | (at_builtin; refine appU1 rfl (.tmp 29) (.tmp 31) rfl _ r _ _ c (fltTo ours (pA base theirs) k) rfl (HO.out.alloc _) wr.heap.size x rfl (Blk.new _ _ _) hxb (by omega) ?_; intro r3 A3 c3 w3 m1 m2 m3))
        go_roundw
        case rel =>
          have hp : pA base theirs x = true := by simp [pA, H1.out]
          have hr3 : ∀ g, r3 = some g → w.heap.size < g := fun g e => by
            rcases m3 with h3 | h3
            · exact hr g (by rw [← h3, e])
            · have := h3 g e; simp at this; omega
          exact ⟨k + 1, r3, A3, c3, by omega, by go_num, by rw [HN.out, hp]; rfl, by rw [HN.out, HT.out, hp]; exact m1, hr3, (hbr.alloc hbr.size _).grown m2 (by simp; omega) (fun g e => by have := hr g e; omega), (hX.alloc _).grown m2 (fun e => by have := hr _ e.symm; omega)⟩
        case measure => simp [intOf]; omega
    · obtain rfl : k = no := by omega
      obtain ⟨wo, rfl⟩ : ∃ wo : World, wo = wr := ⟨_, rfl⟩
      rw [← allTN_zero] at hown ⊢
      rw [← allTo_zero] at hown
      have HOW := Lib.hid hown
      clear hown
      go_wp2_with fail
      go_loopw [4, 37] (fun o i wr => ∃ (m : Nat) (r : Option Nat) (A : Option Addr) (c : Nat), m ≤ nt ∧ i = .int .i64 m ∧ o = .slice A (allTN base ours theirs k m) c ∧ OwnU wr r A (allTN base ours theirs k m) c (allTo base ours theirs k m) ∧ (∀ g, r = some g → w.heap.size < g) ∧ Below w.heap.size w wr ∧ Blk wr w.heap.size 46 #[.slice Ab nb cb, .slice Ao k co, .slice At nt ct]) (fun _ i _ => nt - (intOf i).toNat)
      case atStart => exact ⟨0, r, A, c, by omega, rfl, rfl, HOW.out, hr, hbr, hX⟩
      case round =>
        clear HOW hr hbr hX hqb hqo hqt hx0 hx1 hx2 hsz hle
        obtain ⟨m, r, A, c, hm, rfl, rfl, hown, hr, hbr, hX⟩ := hrel
        have hqb := hb.below (hbr.mono hB)
        have hqo := ho.below (hbr.mono hB)
        have hqt := ht.below (hbr.mono hB)
        obtain ⟨hx0, hx1, hx2⟩ := hX.c3
        have hsz := hX.lt
        have hle1 := fltN_le ours (pA base theirs) k
        have hle2 := fltN_le theirs (pB base ours) m
        have hle : allTN base ours theirs k m ≤ 2000000 := by unfold allTN; omega
        clear hle1 hle2
        by_cases hlt2 : m < nt
        · obtain ⟨ad, x, rfl, hbl, hx, hxb, hc1⟩ := hqt.at_ hlt2
          have HN : Hid (allTN base ours theirs k (m + 1) = allTN base ours theirs k m + if pB base ours x then 1 else 0) := by
            show _ = _; unfold allTN; rw [fltN_succ hx]; omega
          have HT : Hid (allTo base ours theirs k (m + 1) = allTo base ours theirs k m ++ if pB base ours x then [x] else []) := by
            show _ = _; unfold allTo; rw [fltTo_succ hx]; simp
          have HO := Lib.hid hown
          clear hx hown
          cases h1 : hasB ours x
          · have H1 := Lib.hid h1
            clear h1
            cases h2 : hasB base x
            · have H2 := Lib.hid h2
              clear h2
              go_wp2_with (first
                | (go_at_call 66; refine (has1_any B _ _ _ ours x _ hqo).mono ?_; rintro e w' ⟨rfl, rfl⟩; rw [H1.out])
                | (go_at_call 66; refine (has1_any B _ _ _ base x _ hqb).mono ?_; rintro e w' ⟨rfl, rfl⟩; rw [H2.out])
                | (at_builtin; refine appU1 rfl (.tmp 55) (.tmp 57) rfl _ r _ _ c (allTo base ours theirs k m) rfl (HO.out.alloc _) wr.heap.size x rfl (Blk.new _ _ _) hxb (by omega) ?_; intro r3 A3 c3 w3 m1 m2 m3))
              go_roundw
              case rel =>
                have hp : pB base ours x = true := by simp [pB, H1.out, H2.out]
                have hr3 : ∀ g, r3 = some g → w.heap.size < g := fun g e => by
                  rcases m3 with h3 | h3
                  · exact hr g (by rw [← h3, e])
                  · have := h3 g e; simp at this; omega
                exact ⟨m + 1, r3, A3, c3, by omega, by go_num, by rw [HN.out, hp]; rfl, by rw [HN.out, HT.out, hp]; exact m1, hr3, (hbr.alloc hbr.size _).grown m2 (by simp; omega) (fun g e => by have := hr g e; omega), (hX.alloc _).grown m2 (fun e => by have := hr _ e.symm; omega)⟩
              case measure => simp [intOf]; omega
            · have H2 := Lib.hid h2
              clear h2
              go_wp2_with (first
                | (go_at_call 66; refine (has1_any B _ _ _ ours x _ hqo).mono ?_; rintro e w' ⟨rfl, rfl⟩; rw [H1.out])
                | (go_at_call 66; refine (has1_any B _ _ _ base x _ hqb).mono ?_; rintro e w' ⟨rfl, rfl⟩; rw [H2.out]))
              go_roundw
              case rel =>
                have hp : pB base ours x = false := by simp [pB, H1.out, H2.out]
                exact ⟨m + 1, r, A, c, by omega, by go_num, by rw [HN.out, hp]; rfl, by rw [HN.out, HT.out, hp]; simpa using HO.out, hr, hbr, hX⟩
              case measure => simp [intOf]; omega
          · have H1 := Lib.hid h1
            clear h1
            go_wp2_with (first
              | (go_at_call 66; refine (has1_any B _ _ _ ours x _ hqo).mono ?_; rintro e w' ⟨rfl, rfl⟩; rw [H1.out]))
            go_roundw
            case rel =>
              have hp : pB base ours x = false := by simp [pB, H1.out]
              exact ⟨m + 1, r, A, c, by omega, by go_num, by rw [HN.out, hp]; rfl, by rw [HN.out, HT.out, hp]; simpa using HO.out, hr, hbr, hX⟩
            case measure => simp [intOf]; omega
        · obtain rfl : m = nt := by omega
          go_wp2_with fail
          go_ret
          have e1 := allTo_all base ours theirs HLo.out HLt.out
          have e2 : allTN base ours theirs k m = allN base ours theirs := by rw [← allTo_len, e1]; rfl
          rw [e1, e2] at hown
          exact ⟨r, A, c, by show Ending.returned (Value.slice A (allTN base ours theirs k m) c) = _; rw [e2], hown, hbr⟩
end Go.Proofs.Ytklmckbpbloonaa
