/- Parts of the proof: UnionA, UnionB, UnionC, UnionD, UnionE, UnionF. -/
import Derived.Test.YtklmckbpbloonaaBC1
import Derived.Test.YtklmckbpbloonaaBC3
import Derived.Deep.QuietTactic
import Derived.BigQuiet
import Derived.Shelf.Abstract
import Derived.Test.YtklmckbpbloonaaBC22
namespace Go.Proofs.Ytklmckbpbloonaa
open Go.RowKit

theorem hasB_idx (xs : List Int) (x : Int) : decide (0 ≤ idx xs x) = hasB xs x := by
  unfold hasB idx
  by_cases h : x ∈ xs
  · rw [if_pos h]; simp [h]
  · rw [if_neg h]; simp [h]
theorem contains_any (B : Nat) (A : Option Addr) (n c : Nat) (xs : List Int) (x : Int) (w : World) (h : RdU w B A n c xs) :
    Calls Try.prog 52 #[.slice A n c, .int .u32 x] w fun e w' => e = .returned (.bool (hasB xs x)) ∧ w = w' := by
  go_enter Try.func52, Try.ntmps52
  go_wp2_with (go_at_call 59; refine (index_any B _ _ _ xs _ _ h).mono ?_; rintro e w' ⟨rfl, rfl⟩)
  go_ret
  exact ⟨ret_bool (by rw [← hasB_idx]), rfl⟩
theorem has1_any (B : Nat) (A : Option Addr) (n c : Nat) (xs : List Int) (x : Int) (w : World) (h : RdU w B A n c xs) :
    Calls Try.prog 66 #[.slice A n c, .int .u32 x] w fun e w' => e = .returned (.bool (hasB xs x)) ∧ w = w' := by
  go_enter Try.func66, Try.ntmps66
  go_wp2_with (go_at_call 52; refine (contains_any B _ _ _ xs _ _ h).mono ?_; rintro e w' ⟨rfl, rfl⟩)
  go_ret
  exact ⟨rfl, rfl⟩
/-- What is kept of a row, behind k. -/
def fltTo (xs : List Int) (p : Int → Bool) (k : Nat) : List Int := (xs.take k).filter p
def fltN (xs : List Int) (p : Int → Bool) (k : Nat) : Nat := (fltTo xs p k).length
theorem fltTo_succ {xs : List Int} {p : Int → Bool} {k : Nat} {x : Int} (h : xs[k]? = some x) : fltTo xs p (k + 1) = fltTo xs p k ++ if p x then [x] else [] := by
  unfold fltTo; rw [take_at h, List.filter_append]
  congr 1
  cases hp : p x <;> simp [hp]
theorem fltN_succ {xs : List Int} {p : Int → Bool} {k : Nat} {x : Int} (h : xs[k]? = some x) : fltN xs p (k + 1) = fltN xs p k + if p x then 1 else 0 := by
  unfold fltN; rw [fltTo_succ h]; cases hp : p x <;> simp
theorem fltN_le (xs : List Int) (p : Int → Bool) (k : Nat) : fltN xs p k ≤ k := by
  have h1 := List.length_filter_le p (xs.take k)
  have h2 := List.length_take_le k xs
  unfold fltN fltTo; omega
theorem fltTo_all (xs : List Int) (p : Int → Bool) {n : Nat} (hn : xs.length = n) : fltTo xs p n = xs.filter p := by subst hn; unfold fltTo; rw [List.take_length]
def pA (base theirs : List Int) (x : Int) : Bool := hasB theirs x || !hasB base x
def pB (base ours : List Int) (x : Int) : Bool := !hasB ours x && !hasB base x
def allL (base ours theirs : List Int) : List Int := ours.filter (pA base theirs) ++ theirs.filter (pB base ours)
def allTo (base ours theirs : List Int) (n m : Nat) : List Int := fltTo ours (pA base theirs) n ++ fltTo theirs (pB base ours) m
def allTN (base ours theirs : List Int) (n m : Nat) : Nat := fltN ours (pA base theirs) n + fltN theirs (pB base ours) m
theorem allTo_len (base ours theirs : List Int) (n m : Nat) : (allTo base ours theirs n m).length = allTN base ours theirs n m := by simp [allTo, allTN, fltN]
theorem allTo_all (base ours theirs : List Int) {n m : Nat} (hn : ours.length = n) (hm : theirs.length = m) : allTo base ours theirs n m = allL base ours theirs := by
  unfold allTo allL; rw [fltTo_all _ _ hn, fltTo_all _ _ hm]
theorem allTo_zero (base ours theirs : List Int) (n : Nat) : allTo base ours theirs n 0 = fltTo ours (pA base theirs) n := by simp [allTo, fltTo]
theorem allTN_zero (base ours theirs : List Int) (n : Nat) : allTN base ours theirs n 0 = fltN ours (pA base theirs) n := by simp [allTN, fltN, fltTo]
def allN (base ours theirs : List Int) : Nat := (allL base ours theirs).length
set_option maxRecDepth 100000 in
set_option maxHeartbeats 4000000 in
theorem all_any (B : Nat) (Ab Ao At : Option Addr) (nb cb no co nt ct : Nat) (base ours theirs : List Int) (w : World) (hb : RdU w B Ab nb cb base) (ho : RdU w B Ao no co ours) (ht : RdU w B At nt ct theirs) (hno : no ≤ 1000000) (hnt : nt ≤ 1000000) (hB : B ≤ w.heap.size) :
    Calls Try.prog 32 #[.agg #[.slice Ab nb cb, .slice Ao no co, .slice At nt ct]] w fun e w' => ∃ r A c, e = .returned (.slice A (allN base ours theirs) c) ∧ OwnU w' r A (allN base ours theirs) c (allL base ours theirs) ∧ Below w.heap.size w w' := by
  obtain ⟨hno', hco⟩ := ho.bd
  obtain ⟨hnt', hct⟩ := ht.bd
  have HLo := Lib.hid ho.len
  have HLt := Lib.hid ht.len
  have hX0 := Blk.new w 46 #[.slice Ab nb cb, .slice Ao no co, .slice At nt ct]
  have HB0 := Lib.hid ((Below.refl w.heap.size w).alloc (Nat.le_refl _) (.cells #[.slice Ab nb cb, .slice Ao no co, .slice At nt ct] 46))
  go_enter Try.func32, Try.ntmps32
  go_wp2_with fail
  go_loopw [4, 12] (fun o i wr => ∃ (k : Nat) (r : Option Nat) (A : Option Addr) (c : Nat), k ≤ no ∧ i = .int .i64 k ∧ o = .slice A (fltN ours (pA base theirs) k) c ∧ OwnU wr r A (fltN ours (pA base theirs) k) c (fltTo ours (pA base theirs) k) ∧ (∀ g, r = some g → w.heap.size < g) ∧ Below w.heap.size w wr ∧ Blk wr w.heap.size 46 #[.slice Ab nb cb, .slice Ao no co, .slice At nt ct]) (fun _ i _ => no - (intOf i).toNat)
  case atStart => exact ⟨0, none, none, 0, by omega, rfl, by simp [fltN, fltTo], by simpa [fltN, fltTo] using OwnU.nil_ _ _, by simp, HB0.out, hX0⟩
  case round =>
    clear hX0 HB0
    obtain ⟨k, r, A, c, hk, rfl, rfl, hown, hr, hbr, hX⟩ := hrel
    have hqb := hb.below (hbr.mono hB)
    have hqo := ho.below (hbr.mono hB)
    have hqt := ht.below (hbr.mono hB)
    obtain ⟨hx0, hx1, hx2⟩ := hX.c3
    have hsz := hX.lt
    have hle := fltN_le ours (pA base theirs) k
    by_cases hlt : k < no
    · obtain ⟨ad, x, rfl, hbl, hx, hxb, hc1⟩ := hqo.at_ hlt
      have HN : Hid (fltN ours (pA base theirs) (k + 1) = fltN ours (pA base theirs) k + if pA base theirs x then 1 else 0) := fltN_succ hx
      have HT : Hid (fltTo ours (pA base theirs) (k + 1) = fltTo ours (pA base theirs) k ++ if pA base theirs x then [x] else []) := fltTo_succ hx
      have HO := Lib.hid hown
      clear hx hown
      cases h1 : hasB theirs x
      · have H1 := Lib.hid h1
        clear h1
        cases h2 : hasB base x
        · have H2 := Lib.hid h2
          clear h2
          go_wp2_with (first
            | (go_at_call 66; refine (has1_any B _ _ _ theirs x _ hqt).mono ?_; rintro e w' ⟨rfl, rfl⟩; rw [H1.out])
            | (go_at_call 66; refine (has1_any B _ _ _ base x _ hqb).mono ?_; rintro e w' ⟨rfl, rfl⟩; rw [H2.out])
            | (at_builtin; refine appU1 rfl (.tmp 29) (.tmp 31) rfl _ r _ _ c (fltTo ours (pA base theirs) k) rfl (HO.out.alloc _) wr.heap.size x rfl (Blk.new _ _ _) hxb (by omega) ?_; intro r3 A3 c3 w3 m1 m2 m3))
          go_roundw
          case rel =>
            have hp : pA base theirs x = true := by simp [pA, H1.out, H2.out]
            have hr3 : ∀ g, r3 = some g → w.heap.size < g := fun g e => by
              rcases m3 with h3 | h3
              · exact hr g (by rw [← h3, e])
              · have := h3 g e; simp at this; omega
            exact ⟨k + 1, r3, A3, c3, by omega, by go_num, by rw [HN.out, hp]; rfl, by rw [HN.out, HT.out, hp]; exact m1, hr3, (hbr.alloc hbr.size _).grown m2 (by simp; omega) (fun g e => by have := hr g e; omega), (hX.alloc _).grown m2 (fun e => by have := hr _ e.symm; omega)⟩
          case measure => simp [intOf]; omega
        · have H2 := Lib.hid h2
          clear h2
          go_wp2_with (first
            | (go_at_call 66; refine (has1_any B _ _ _ theirs x _ hqt).mono ?_; rintro e w' ⟨rfl, rfl⟩; rw [H1.out])
            | (go_at_call 66; refine (has1_any B _ _ _ base x _ hqb).mono ?_; rintro e w' ⟨rfl, rfl⟩; rw [H2.out]))
          go_roundw
          case rel =>
            have hp : pA base theirs x = false := by simp [pA, H1.out, H2.out]
            exact ⟨k + 1, r, A, c, by omega, by go_num, by rw [HN.out, hp]; rfl, by rw [HN.out, HT.out, hp]; simpa using HO.out, hr, hbr, hX⟩
          case measure => simp [intOf]; omega
      · have H1 := Lib.hid h1
        clear h1
        go_wp2_with (first
          | (go_at_call 66; refine (has1_any B _ _ _ theirs x _ hqt).mono ?_; rintro e w' ⟨rfl, rfl⟩; rw [H1.out])
          | (at_builtin; refine appU1 rfl (.tmp 29) (.tmp 31) rfl _ r _ _ c (fltTo ours (pA base theirs) k) rfl (HO.out.alloc _) wr.heap.size x rfl (Blk.new _ _ _) hxb (by omega) ?_; intro r3 A3 c3 w3 m1 m2 m3))
        go_roundw
        case rel =>
          have hp : pA base theirs x = true := by simp [pA, H1.out]
          have hr3 : ∀ g, r3 = some g → w.heap.size < g := fun g e => by
            rcases m3 with h3 | h3
            · exact hr g (by rw [← h3, e])
            · have := h3 g e; simp at this; omega
          exact ⟨k + 1, r3, A3, c3, by omega, by go_num, by rw [HN.out, hp]; rfl, by rw [HN.out, HT.out, hp]; exact m1, hr3, (hbr.alloc hbr.size _).grown m2 (by simp; omega) (fun g e => by have := hr g e; omega), (hX.alloc _).grown m2 (fun e => by have := hr _ e.symm; omega)⟩
        case measure => simp [intOf]; omega
    · obtain rfl : k = no := by omega
      obtain ⟨wo, rfl⟩ : ∃ wo : World, wo = wr := ⟨_, rfl⟩
      rw [← allTN_zero] at hown ⊢
      rw [← allTo_zero] at hown
      have HOW := Lib.hid hown
      clear hown
      go_wp2_with fail
      go_loopw [4, 37] (fun o i wr => ∃ (m : Nat) (r : Option Nat) (A : Option Addr) (c : Nat), m ≤ nt ∧ i = .int .i64 m ∧ o = .slice A (allTN base ours theirs k m) c ∧ OwnU wr r A (allTN base ours theirs k m) c (allTo base ours theirs k m) ∧ (∀ g, r = some g → w.heap.size < g) ∧ Below w.heap.size w wr ∧ Blk wr w.heap.size 46 #[.slice Ab nb cb, .slice Ao k co, .slice At nt ct]) (fun _ i _ => nt - (intOf i).toNat)
      case atStart => exact ⟨0, r, A, c, by omega, rfl, rfl, HOW.out, hr, hbr, hX⟩
      case round =>
        clear HOW hr hbr hX hqb hqo hqt hx0 hx1 hx2 hsz hle
        obtain ⟨m, r, A, c, hm, rfl, rfl, hown, hr, hbr, hX⟩ := hrel
        have hqb := hb.below (hbr.mono hB)
        have hqo := ho.below (hbr.mono hB)
        have hqt := ht.below (hbr.mono hB)
        obtain ⟨hx0, hx1, hx2⟩ := hX.c3
        have hsz := hX.lt
        have hle1 := fltN_le ours (pA base theirs) k
        have hle2 := fltN_le theirs (pB base ours) m
        have hle : allTN base ours theirs k m ≤ 2000000 := by unfold allTN; omega
        clear hle1 hle2
        by_cases hlt2 : m < nt
        · obtain ⟨ad, x, rfl, hbl, hx, hxb, hc1⟩ := hqt.at_ hlt2
          have HN : Hid (allTN base ours theirs k (m + 1) = allTN base ours theirs k m + if pB base ours x then 1 else 0) := by
            show _ = _; unfold allTN; rw [fltN_succ hx]; omega
          have HT : Hid (allTo base ours theirs k (m + 1) = allTo base ours theirs k m ++ if pB base ours x then [x] else []) := by
            show _ = _; unfold allTo; rw [fltTo_succ hx]; simp
          have HO := Lib.hid hown
          clear hx hown
          cases h1 : hasB ours x
          · have H1 := Lib.hid h1
            clear h1
            cases h2 : hasB base x
            · have H2 := Lib.hid h2
              clear h2
              go_wp2_with (first
                | (go_at_call 66; refine (has1_any B _ _ _ ours x _ hqo).mono ?_; rintro e w' ⟨rfl, rfl⟩; rw [H1.out])
                | (go_at_call 66; refine (has1_any B _ _ _ base x _ hqb).mono ?_; rintro e w' ⟨rfl, rfl⟩; rw [H2.out])
                | (at_builtin; refine appU1 rfl (.tmp 55) (.tmp 57) rfl _ r _ _ c (allTo base ours theirs k m) rfl (HO.out.alloc _) wr.heap.size x rfl (Blk.new _ _ _) hxb (by omega) ?_; intro r3 A3 c3 w3 m1 m2 m3))
              go_roundw
              case rel =>
                have hp : pB base ours x = true := by simp [pB, H1.out, H2.out]
                have hr3 : ∀ g, r3 = some g → w.heap.size < g := fun g e => by
                  rcases m3 with h3 | h3
                  · exact hr g (by rw [← h3, e])
                  · have := h3 g e; simp at this; omega
                exact ⟨m + 1, r3, A3, c3, by omega, by go_num, by rw [HN.out, hp]; rfl, by rw [HN.out, HT.out, hp]; exact m1, hr3, (hbr.alloc hbr.size _).grown m2 (by simp; omega) (fun g e => by have := hr g e; omega), (hX.alloc _).grown m2 (fun e => by have := hr _ e.symm; omega)⟩
              case measure => simp [intOf]; omega
            · have H2 := Lib.hid h2
              clear h2
              go_wp2_with (first
                | (go_at_call 66; refine (has1_any B _ _ _ ours x _ hqo).mono ?_; rintro e w' ⟨rfl, rfl⟩; rw [H1.out])
                | (go_at_call 66; refine (has1_any B _ _ _ base x _ hqb).mono ?_; rintro e w' ⟨rfl, rfl⟩; rw [H2.out]))
              go_roundw
              case rel =>
                have hp : pB base ours x = false := by simp [pB, H1.out, H2.out]
                exact ⟨m + 1, r, A, c, by omega, by go_num, by rw [HN.out, hp]; rfl, by rw [HN.out, HT.out, hp]; simpa using HO.out, hr, hbr, hX⟩
              case measure => simp [intOf]; omega
          · have H1 := Lib.hid h1
            clear h1
            go_wp2_with (first
              | (go_at_call 66; refine (has1_any B _ _ _ ours x _ hqo).mono ?_; rintro e w' ⟨rfl, rfl⟩; rw [H1.out]))
            go_roundw
            case rel =>
              have hp : pB base ours x = false := by simp [pB, H1.out]
              exact ⟨m + 1, r, A, c, by omega, by go_num, by rw [HN.out, hp]; rfl, by rw [HN.out, HT.out, hp]; simpa using HO.out, hr, hbr, hX⟩
            case measure => simp [intOf]; omega
        · obtain rfl : m = nt := by omega
          go_wp2_with fail
          go_ret
          have e1 := allTo_all base ours theirs HLo.out HLt.out
          have e2 : allTN base ours theirs k m = allN base ours theirs := by rw [← allTo_len, e1]; rfl
          rw [e1, e2] at hown
          exact ⟨r, A, c, by show Ending.returned (Value.slice A (allTN base ours theirs k m) c) = _; rw [e2], hown, hbr⟩
end Go.Proofs.Ytklmckbpbloonaa

namespace Go.Proofs.Ytklmckbpbloonaa
open Go.RowKit

theorem belongs_any (b o t : Bool) (w : World) : Calls Try.prog 65 #[.bool b, .bool o, .bool t] w fun e w' => e = .returned (.bool (o && t || o && !b || t && !b)) ∧ w = w' := by
  cases b <;> cases o <;> cases t <;>
  · go_enter Try.func65, Try.ntmps65
    go_wp2
    go_ret
    exact ⟨rfl, rfl⟩
theorem idx_has {xs : List Int} {x : Int} (h : hasB xs x = true) : 0 ≤ idx xs x := by rw [← hasB_idx] at h; simpa using h
theorem idx_hasnt {xs : List Int} {x : Int} (h : hasB xs x = false) : idx xs x < 0 := by rw [← hasB_idx] at h; simpa using h
theorem pick_any (B : Nat) (Ab Ao At : Option Addr) (nb cb no co nt ct : Nat) (base ours theirs : List Int) (w : World) (hb : RdU w B Ab nb cb base) (ho : RdU w B Ao no co ours) (ht : RdU w B At nt ct theirs) (hno : no ≤ 1000000) (hnt : nt ≤ 1000000) (hB : B ≤ w.heap.size) :
    Calls Try.prog 31 #[.slice Ab nb cb, .slice Ao no co, .slice At nt ct] w fun e w' => ∃ r A c, e = .returned (.slice A (allN base ours theirs) c) ∧ OwnU w' r A (allN base ours theirs) c (allL base ours theirs) ∧ Below w.heap.size w w' := by
  go_enter Try.func31, Try.ntmps31
  go_wp2_with (go_at_call 32; refine (all_any B _ _ _ _ _ _ _ _ _ base ours theirs _ hb ho ht hno hnt hB).mono ?_; rintro e w' ⟨r, A, c, rfl, k1, k2⟩)
  go_ret
  exact ⟨r, A, c, rfl, k1, k2⟩
/-- Are a row's things unlike? -/
def unlikeB (xs : List Int) : Bool := decide xs.Nodup
def likeAt (xs : List Int) (k : Nat) : Prop := ∀ j x, j < k → xs[j]? = some x → idx xs x = j
theorem unlike_all {xs : List Int} {n : Nat} (hn : xs.length = n) (h : likeAt xs n) : xs.Nodup := by
  subst hn
  rw [List.nodup_iff_pairwise_ne, List.pairwise_iff_getElem]
  intro i j hi hj hij e
  have h1 := h i xs[i] hi (List.getElem?_eq_getElem hi)
  have h2 := h j xs[j] hj (List.getElem?_eq_getElem hj)
  rw [e, h2] at h1
  omega
theorem unlike_not {xs : List Int} {k : Nat} {x : Int} (h : xs[k]? = some x) (hne : idx xs x ≠ k) : ¬ xs.Nodup := by
  intro hn
  refine hne (idx_hit (fun j hj e => ?_) h)
  obtain ⟨a, e1⟩ := List.getElem?_eq_some_iff.1 e
  obtain ⟨b, e2⟩ := List.getElem?_eq_some_iff.1 h
  have := (List.getElem_inj hn).1 (e1.trans e2.symm)
  omega
set_option maxHeartbeats 1000000 in
theorem unlike_any (B : Nat) (A : Option Addr) (n c : Nat) (xs : List Int) (w : World) (h : RdU w B A n c xs) :
    Calls Try.prog 28 #[.slice A n c] w fun e w' => e = .returned (.bool (unlikeB xs)) ∧ w = w' := by
  have HL := Lib.hid h.len
  obtain ⟨hn, hc⟩ := h.bd
  go_enter Try.func28, Try.ntmps28
  go_wp2
  go_loopw [7] (fun i wr => ∃ k : Nat, k ≤ n ∧ i = .int .i64 k ∧ wr = w ∧ Hid (likeAt xs k)) (fun i _ => n - (intOf i).toNat)
  case atStart => exact ⟨0, by omega, rfl, rfl, fun j x hj => absurd hj (by omega)⟩
  case round =>
    obtain ⟨k, hk, rfl, rfl, HJ⟩ := hrel
    by_cases hlt : k < n
    · obtain ⟨ad, x, rfl, hbl, hx, _, hc1⟩ := h.at_ hlt
      have HX := Lib.hid hx
      clear hx
      by_cases he : idx xs x = k
      · have he1 : (idx xs x != (k : Int)) = false := by simp [he]
        have HE := Lib.hid he
        clear he
        go_wp2_with (go_at_call 30; refine (rfind_any B _ _ _ xs x _ h).mono ?_; rintro e w' ⟨rfl, rfl⟩)
        go_roundw
        case rel =>
          refine ⟨k + 1, by omega, by go_num, trivial, fun j y hj hy => ?_⟩
          by_cases hjk : j = k
          · subst hjk
            have := HX.out
            rw [this] at hy; injection hy with hy; subst hy; exact HE.out
          · exact HJ.out j y (by omega) hy
        case measure => simp [intOf]; omega
      · have he1 : (idx xs x != (k : Int)) = true := by simp [he]
        have HE := Lib.hid he
        clear he
        go_wp2_with (go_at_call 30; refine (rfind_any B _ _ _ xs x _ h).mono ?_; rintro e w' ⟨rfl, rfl⟩)
        go_ret
        exact ⟨ret_bool (by have := unlike_not HX.out HE.out; simp [unlikeB, this]), rfl⟩
    · obtain rfl : k = n := by omega
      go_wp2
      go_ret
      exact ⟨ret_bool (by have := unlike_all HL.out HJ.out; simp [unlikeB, this]), rfl⟩
end Go.Proofs.Ytklmckbpbloonaa

namespace Go.Proofs.Ytklmckbpbloonaa
open Go.RowKit

set_option maxRecDepth 100000 in
set_option maxHeartbeats 4000000 in
theorem nums_any (B : Nat) (Ab Ao At : Option Addr) (nb cb no co nt ct : Nat) (base ours theirs : List Int) (w : World) (hb : RdU w B Ab nb cb base) (ho : RdU w B Ao no co ours) (ht : RdU w B At nt ct theirs) (hno : no ≤ 1000000) (hnt : nt ≤ 1000000) (hB : B ≤ w.heap.size) :
    Calls Try.prog 29 #[.slice Ab nb cb, .slice Ao no co, .slice At nt ct] w fun e w' => ∃ r A c, e = .returned (.slice A (allN base ours theirs) c) ∧ OwnU w' r A (allN base ours theirs) c (allL base ours theirs) ∧ Below w.heap.size w w' := by
  obtain ⟨hno', hco⟩ := ho.bd
  obtain ⟨hnt', hct⟩ := ht.bd
  have HLo := Lib.hid ho.len
  have HLt := Lib.hid ht.len
  go_enter Try.func29, Try.ntmps29
  go_wp2_with fail
  go_loopw [7, 14] (fun o i wr => ∃ (k : Nat) (r : Option Nat) (A : Option Addr) (c : Nat), k ≤ no ∧ i = .int .i64 k ∧ o = .slice A (fltN ours (pA base theirs) k) c ∧ OwnU wr r A (fltN ours (pA base theirs) k) c (fltTo ours (pA base theirs) k) ∧ (∀ g, r = some g → w.heap.size ≤ g) ∧ Below w.heap.size w wr) (fun _ i _ => no - (intOf i).toNat)
  case atStart => exact ⟨0, none, none, 0, by omega, rfl, by simp [fltN, fltTo], by simpa [fltN, fltTo] using OwnU.nil_ _ _, by simp, Below.refl _ _⟩
  case round =>
    obtain ⟨k, r, A, c, hk, rfl, rfl, hown, hr, hbr⟩ := hrel
    have hqb := hb.below (hbr.mono hB)
    have hqo := ho.below (hbr.mono hB)
    have hqt := ht.below (hbr.mono hB)
    have hle := fltN_le ours (pA base theirs) k
    by_cases hlt : k < no
    · obtain ⟨ad, x, rfl, hbl, hx, hxb, hc1⟩ := hqo.at_ hlt
      have HN : Hid (fltN ours (pA base theirs) (k + 1) = fltN ours (pA base theirs) k + if pA base theirs x then 1 else 0) := fltN_succ hx
      have HT : Hid (fltTo ours (pA base theirs) (k + 1) = fltTo ours (pA base theirs) k ++ if pA base theirs x then [x] else []) := fltTo_succ hx
      have HO := Lib.hid hown
      clear hx hown
      cases h1 : hasB theirs x
      · have H1 := Lib.hid h1
        clear h1
        have g1 := idx_hasnt H1.out; have g1' : decide (0 ≤ idx theirs x) = false := by simp; omega
        cases h2 : hasB base x
        · have H2 := Lib.hid h2
          clear h2
          have g2 := idx_hasnt H2.out; have g2' : decide (0 ≤ idx base x) = false := by simp; omega
          go_wp2_with (first
            | (go_at_call 30; refine (rfind_any B _ _ _ _ x _ (by first | exact hqb | exact hqt | exact hqo)).mono ?_; rintro e w' ⟨rfl, rfl⟩)
            | (go_at_call 65; refine (belongs_any _ _ _ _).mono ?_; rintro e w' ⟨rfl, rfl⟩)
            | (at_builtin; refine appU1 rfl (.tmp 27) (.tmp 29) rfl _ r _ _ c (fltTo ours (pA base theirs) k) rfl (HO.out.alloc _) wr.heap.size x rfl (Blk.new _ _ _) hxb (by omega) ?_; intro r3 A3 c3 w3 m1 m2 m3))
          go_roundw
          case rel =>
            have hp : pA base theirs x = true := by simp [pA, H1.out, H2.out]
            have hr3 : ∀ g, r3 = some g → w.heap.size ≤ g := fun g e => by
              rcases m3 with h3 | h3
              · exact hr g (by rw [← h3, e])
              · have a1 := h3 g e; have a2 := hbr.size; simp only [World.size_alloc] at a1; omega
            exact ⟨k + 1, r3, A3, c3, by omega, by go_num, by rw [HN.out, hp]; rfl, by rw [HN.out, HT.out, hp]; exact m1, hr3, (hbr.alloc hbr.size _).grown m2 (by have := hbr.size; simp; omega) (fun g e => hr g e)⟩
          case measure => simp [intOf]; omega
        · have H2 := Lib.hid h2
          clear h2
          have g2 := idx_has H2.out
          go_wp2_with (first
            | (go_at_call 30; refine (rfind_any B _ _ _ _ x _ (by first | exact hqb | exact hqt | exact hqo)).mono ?_; rintro e w' ⟨rfl, rfl⟩)
            | (go_at_call 65; refine (belongs_any _ _ _ _).mono ?_; rintro e w' ⟨rfl, rfl⟩))
          go_roundw
          case rel =>
            have hp : pA base theirs x = false := by simp [pA, H1.out, H2.out]
            exact ⟨k + 1, r, A, c, by omega, by go_num, by rw [HN.out, hp]; rfl, by rw [HN.out, HT.out, hp]; simpa using HO.out, hr, hbr⟩
          case measure => simp [intOf]; omega
      · have H1 := Lib.hid h1
        clear h1
        have g1 := idx_has H1.out
        cases h2 : hasB base x
        · have H2 := Lib.hid h2
          clear h2
          have g2 := idx_hasnt H2.out; have g2' : decide (0 ≤ idx base x) = false := by simp; omega
          go_wp2_with (first
            | (go_at_call 30; refine (rfind_any B _ _ _ _ x _ (by first | exact hqb | exact hqt | exact hqo)).mono ?_; rintro e w' ⟨rfl, rfl⟩)
            | (go_at_call 65; refine (belongs_any _ _ _ _).mono ?_; rintro e w' ⟨rfl, rfl⟩)
            | (at_builtin; refine appU1 rfl (.tmp 27) (.tmp 29) rfl _ r _ _ c (fltTo ours (pA base theirs) k) rfl (HO.out.alloc _) wr.heap.size x rfl (Blk.new _ _ _) hxb (by omega) ?_; intro r3 A3 c3 w3 m1 m2 m3))
          go_roundw
          case rel =>
            have hp : pA base theirs x = true := by simp [pA, H1.out, H2.out]
            have hr3 : ∀ g, r3 = some g → w.heap.size ≤ g := fun g e => by
              rcases m3 with h3 | h3
              · exact hr g (by rw [← h3, e])
              · have a1 := h3 g e; have a2 := hbr.size; simp only [World.size_alloc] at a1; omega
            exact ⟨k + 1, r3, A3, c3, by omega, by go_num, by rw [HN.out, hp]; rfl, by rw [HN.out, HT.out, hp]; exact m1, hr3, (hbr.alloc hbr.size _).grown m2 (by have := hbr.size; simp; omega) (fun g e => hr g e)⟩
          case measure => simp [intOf]; omega
        · have H2 := Lib.hid h2
          clear h2
          have g2 := idx_has H2.out
          go_wp2_with (first
            | (go_at_call 30; refine (rfind_any B _ _ _ _ x _ (by first | exact hqb | exact hqt | exact hqo)).mono ?_; rintro e w' ⟨rfl, rfl⟩)
            | (go_at_call 65; refine (belongs_any _ _ _ _).mono ?_; rintro e w' ⟨rfl, rfl⟩)
            | (at_builtin; refine appU1 rfl (.tmp 27) (.tmp 29) rfl _ r _ _ c (fltTo ours (pA base theirs) k) rfl (HO.out.alloc _) wr.heap.size x rfl (Blk.new _ _ _) hxb (by omega) ?_; intro r3 A3 c3 w3 m1 m2 m3))
          go_roundw
          case rel =>
            have hp : pA base theirs x = true := by simp [pA, H1.out, H2.out]
            have hr3 : ∀ g, r3 = some g → w.heap.size ≤ g := fun g e => by
              rcases m3 with h3 | h3
              · exact hr g (by rw [← h3, e])
              · have a1 := h3 g e; have a2 := hbr.size; simp only [World.size_alloc] at a1; omega
            exact ⟨k + 1, r3, A3, c3, by omega, by go_num, by rw [HN.out, hp]; rfl, by rw [HN.out, HT.out, hp]; exact m1, hr3, (hbr.alloc hbr.size _).grown m2 (by have := hbr.size; simp; omega) (fun g e => hr g e)⟩
          case measure => simp [intOf]; omega
    · obtain rfl : k = no := by omega
      obtain ⟨wo, rfl⟩ : ∃ wo : World, wo = wr := ⟨_, rfl⟩
      rw [← allTN_zero] at hown ⊢
      rw [← allTo_zero] at hown
      have HOW := Lib.hid hown
      clear hown
      go_wp2_with fail
      go_loopw [7, 34] (fun o i wr => ∃ (m : Nat) (r : Option Nat) (A : Option Addr) (c : Nat), m ≤ nt ∧ i = .int .i64 m ∧ o = .slice A (allTN base ours theirs k m) c ∧ OwnU wr r A (allTN base ours theirs k m) c (allTo base ours theirs k m) ∧ (∀ g, r = some g → w.heap.size ≤ g) ∧ Below w.heap.size w wr) (fun _ i _ => nt - (intOf i).toNat)
      case atStart => exact ⟨0, r, A, c, by omega, rfl, rfl, HOW.out, hr, hbr⟩
      case round =>
        clear HOW hr hbr hqb hqo hqt hle
        obtain ⟨m, r, A, c, hm, rfl, rfl, hown, hr, hbr⟩ := hrel
        have hqb := hb.below (hbr.mono hB)
        have hqo := ho.below (hbr.mono hB)
        have hqt := ht.below (hbr.mono hB)
        have hle1 := fltN_le ours (pA base theirs) k
        have hle2 := fltN_le theirs (pB base ours) m
        have hle : allTN base ours theirs k m ≤ 2000000 := by unfold allTN; omega
        clear hle1 hle2
        by_cases hlt2 : m < nt
        · obtain ⟨ad, x, rfl, hbl, hx, hxb, hc1⟩ := hqt.at_ hlt2
          have HN : Hid (allTN base ours theirs k (m + 1) = allTN base ours theirs k m + if pB base ours x then 1 else 0) := by
            show _ = _; unfold allTN; rw [fltN_succ hx]; omega
          have HT : Hid (allTo base ours theirs k (m + 1) = allTo base ours theirs k m ++ if pB base ours x then [x] else []) := by
            show _ = _; unfold allTo; rw [fltTo_succ hx]; simp
          have HO := Lib.hid hown
          clear hx hown
          cases h1 : hasB ours x
          · have H1 := Lib.hid h1
            clear h1
            have g1 := idx_hasnt H1.out; have g1' : decide (0 ≤ idx ours x) = false := by simp; omega
            cases h2 : hasB base x
            · have H2 := Lib.hid h2
              clear h2
              have g2 := idx_hasnt H2.out; have g2' : decide (0 ≤ idx base x) = false := by simp; omega
              go_wp2_with (first
                | (go_at_call 30; refine (rfind_any B _ _ _ _ x _ (by first | exact hqb | exact hqt | exact hqo)).mono ?_; rintro e w' ⟨rfl, rfl⟩)
                | (go_at_call 65; refine (belongs_any _ _ _ _).mono ?_; rintro e w' ⟨rfl, rfl⟩)
                | (at_builtin; refine appU1 rfl (.tmp 49) (.tmp 51) rfl _ r _ _ c (allTo base ours theirs k m) rfl (HO.out.alloc _) wr.heap.size x rfl (Blk.new _ _ _) hxb (by omega) ?_; intro r3 A3 c3 w3 m1 m2 m3))
              go_roundw
              case rel =>
                have hp : pB base ours x = true := by simp [pB, H1.out, H2.out]
                have hr3 : ∀ g, r3 = some g → w.heap.size ≤ g := fun g e => by
                  rcases m3 with h3 | h3
                  · exact hr g (by rw [← h3, e])
                  · have a1 := h3 g e; have a2 := hbr.size; simp only [World.size_alloc] at a1; omega
                exact ⟨m + 1, r3, A3, c3, by omega, by go_num, by rw [HN.out, hp]; rfl, by rw [HN.out, HT.out, hp]; exact m1, hr3, (hbr.alloc hbr.size _).grown m2 (by have := hbr.size; simp; omega) (fun g e => hr g e)⟩
              case measure => simp [intOf]; omega
            · have H2 := Lib.hid h2
              clear h2
              have g2 := idx_has H2.out
              go_wp2_with (first
                | (go_at_call 30; refine (rfind_any B _ _ _ _ x _ (by first | exact hqb | exact hqt | exact hqo)).mono ?_; rintro e w' ⟨rfl, rfl⟩)
                | (go_at_call 65; refine (belongs_any _ _ _ _).mono ?_; rintro e w' ⟨rfl, rfl⟩))
              go_roundw
              case rel =>
                have hp : pB base ours x = false := by simp [pB, H1.out, H2.out]
                exact ⟨m + 1, r, A, c, by omega, by go_num, by rw [HN.out, hp]; rfl, by rw [HN.out, HT.out, hp]; simpa using HO.out, hr, hbr⟩
              case measure => simp [intOf]; omega
          · have H1 := Lib.hid h1
            clear h1
            have g1 := idx_has H1.out
            go_wp2_with (first
              | (go_at_call 30; refine (rfind_any B _ _ _ _ x _ (by first | exact hqb | exact hqt | exact hqo)).mono ?_; rintro e w' ⟨rfl, rfl⟩))
            go_roundw
            case rel =>
              have hp : pB base ours x = false := by simp [pB, H1.out]
              exact ⟨m + 1, r, A, c, by omega, by go_num, by rw [HN.out, hp]; rfl, by rw [HN.out, HT.out, hp]; simpa using HO.out, hr, hbr⟩
            case measure => simp [intOf]; omega
        · obtain rfl : m = nt := by omega
          go_wp2_with fail
          go_ret
          have e1 := allTo_all base ours theirs HLo.out HLt.out
          have e2 : allTN base ours theirs k m = allN base ours theirs := by rw [← allTo_len, e1]; rfl
          rw [e1, e2] at hown
          exact ⟨r, A, c, by show Ending.returned (Value.slice A (allTN base ours theirs k m) c) = _; rw [e2], hown, hbr⟩
end Go.Proofs.Ytklmckbpbloonaa

namespace Go.Proofs.Ytklmckbpbloonaa
open Go.RowKit

set_option maxRecDepth 100000 in
set_option maxHeartbeats 1000000 in
theorem indexFuncUU (B : Nat) (A : Option Addr) (n c : Nat) (xss : List (List Int)) (p : List Int → Bool) (f : Nat) (caps : Array Value) (w : World) (h : RdUU w B A n c xss)
    (he : ∀ args W, (callFunc f args).run Try.prog W = .ok (.enter f args) W)
    (hf : ∀ (A' : Option Addr) (n' c' : Nat) (xs : List Int), RdU w B A' n' c' xs → Calls Try.prog f (#[.slice A' n' c'] ++ caps) w fun r w' => r = .returned (.bool (p xs)) ∧ w = w') :
    Calls Try.prog 100 #[.slice A n c, .func (.func f) #[] caps] w fun r w' => r = .returned (.int .i64 (fidx p xss)) ∧ w = w' := by
  have HL := Lib.hid h.len
  have hnc : n ≤ c ∧ c ≤ 9223372036854775807 := by obtain ⟨_, _, h1, h2, _⟩ := h; exact ⟨h1, h2⟩
  obtain ⟨hn, hc⟩ := hnc
  have HF := Lib.hid hf
  clear hf
  go_enter Try.func100, Try.ntmps100
  go_wp2
  go_loopw [8] (fun i wr => ∃ k : Nat, k ≤ n ∧ i = .int .i64 k ∧ wr = w ∧ Hid (∀ j e, j < k → xss[j]? = some e → p e = false)) (fun i _ => n - (intOf i).toNat)
  case atStart => exact ⟨0, by omega, rfl, rfl, fun j e hj => absurd hj (by omega)⟩
  case round =>
    obtain ⟨k, hk, rfl, rfl, HJ⟩ := hrel
    by_cases hlt : k < n
    · obtain ⟨ad, x, A', n', c', rfl, hbl, hx, hc1, hR⟩ := h.at_ hlt
      have HX := Lib.hid hx
      clear hx
      cases hp : p x
      · have HP := Lib.hid hp
        clear hp
        go_wp2_with (show Calls Try.prog f _ _ _; refine (HF.out _ _ _ x hR).mono ?_; rintro r w1 ⟨rfl, rfl⟩; rw [HP.out])
        go_roundw
        case rel =>
          refine ⟨k + 1, by omega, by go_num, trivial, fun j e hj hje => ?_⟩
          by_cases ejk : j = k
          · subst ejk; rw [HX.out] at hje; injection hje with hje; subst hje; exact HP.out
          · exact HJ.out j e (by omega) hje
        case measure => simp [intOf]; omega
      · have HP := Lib.hid hp
        clear hp
        go_wp2_with (show Calls Try.prog f _ _ _; refine (HF.out _ _ _ x hR).mono ?_; rintro r w1 ⟨rfl, rfl⟩; rw [HP.out])
        go_ret
        refine ⟨ret_int ?_, rfl⟩
        have hfi : xss.findIdx? p = some k := by
          obtain ⟨hkl, hke⟩ := List.getElem?_eq_some_iff.1 HX.out
          rw [List.findIdx?_eq_some_iff_getElem]
          refine ⟨hkl, by rw [hke]; exact HP.out, fun j hj => ?_⟩
          have := HJ.out j xss[j] hj (List.getElem?_eq_getElem (by omega))
          simp [this]
        unfold fidx; rw [hfi]
    · obtain rfl : k = n := by omega
      go_wp2
      go_ret
      refine ⟨ret_int ?_, rfl⟩
      have hfi : xss.findIdx? p = none := by
        rw [List.findIdx?_eq_none_iff]
        intro e he
        obtain ⟨j, hj, e1⟩ := List.mem_iff_getElem.1 he
        exact HJ.out j e (by have := HL.out; omega) (by rw [List.getElem?_eq_getElem hj, e1])
      unfold fidx; rw [hfi]
theorem fidx_any {α : Type} (p : α → Bool) (l : List α) : decide (0 ≤ fidx p l) = l.any p := by
  unfold fidx
  cases h : l.findIdx? p with
  | none =>
    rw [List.findIdx?_eq_none_iff] at h
    have : l.any p = false := by rw [List.any_eq_false]; intro x hx; simp [h x hx]
    rw [this]; simp
  | some i =>
    rw [List.findIdx?_eq_some_iff_getElem] at h
    obtain ⟨hi, h1, _⟩ := h
    have : l.any p = true := List.any_eq_true.2 ⟨l[i], List.getElem_mem hi, h1⟩
    rw [this]; simp
set_option maxHeartbeats 1000000 in
theorem containsFuncUU (B : Nat) (A : Option Addr) (n c : Nat) (xss : List (List Int)) (p : List Int → Bool) (f : Nat) (caps : Array Value) (w : World) (h : RdUU w B A n c xss)
    (he : ∀ args W, (callFunc f args).run Try.prog W = .ok (.enter f args) W)
    (hf : ∀ (A' : Option Addr) (n' c' : Nat) (xs : List Int), RdU w B A' n' c' xs → Calls Try.prog f (#[.slice A' n' c'] ++ caps) w fun r w' => r = .returned (.bool (p xs)) ∧ w = w') :
    Calls Try.prog 67 #[.slice A n c, .func (.func f) #[] caps] w fun r w' => r = .returned (.bool (xss.any p)) ∧ w = w' := by
  have HF := Lib.hid hf
  clear hf
  go_enter Try.func67, Try.ntmps67
  go_wp2_with (go_at_call 100; refine (indexFuncUU B A n c xss p f caps _ h he HF.out).mono ?_; rintro e w' ⟨rfl, rfl⟩)
  go_ret
  exact ⟨ret_bool (fidx_any p xss), rfl⟩
theorem both1_any (B g : Nat) (A : Option Addr) (n c : Nat) (xs : List Int) (x : Int) (w : World) (h : RdU w B A n c xs) (hx : w.cell? ⟨g, 0, none⟩ = some (.int .u32 x)) (_ : g < w.heap.size) :
    Calls Try.prog 68 #[.slice A n c, .pointer (some ⟨g, 0, none⟩)] w fun r w' => r = .returned (.bool (!hasB xs x)) ∧ w = w' := by
  go_enter Try.func68, Try.ntmps68
  go_wp2_with (go_at_call 52; refine (contains_any B _ _ _ xs _ _ h).mono ?_; rintro e w' ⟨rfl, rfl⟩)
  go_ret
  exact ⟨rfl, rfl⟩
end Go.Proofs.Ytklmckbpbloonaa

namespace Go.Proofs.Ytklmckbpbloonaa
open Go.RowKit

theorem RdUU.tail {w : World} {B n c : Nat} {ad : Addr} {xss : List (List Int)} (h : RdUU w B (some ad) n c xss) (hn : 0 < n) : RdUU w B (some (ad.add 1)) (n - 1) (c - 1) (xss.drop 1) := by
  obtain ⟨hs, h1, h2, h3, h4, h5, h6⟩ := h
  refine ⟨hs.drop 1, ⟨?_, fun hn1 => ?_⟩, by omega, by omega, (fun e => by cases e), by simp [h5], fun j q xs a b => h6 (j + 1) q xs (by rw [List.getElem?_drop] at a; rwa [Nat.add_comm] at a) (by rw [List.getElem?_drop] at b; rwa [Nat.add_comm] at b)⟩
  · have := h1.1
    simp at this ⊢
    omega
  · obtain ⟨a, e, hb, hc⟩ := h1.2 hn
    cases e
    refine ⟨_, rfl, by rw [block_of_add]; exact hb, fun j u hu => ?_⟩
    rw [add_of_add]
    refine hc (1 + j) u ?_
    rw [List.map_drop, List.getElem?_drop] at hu
    exact hu
theorem RdUU.cut1 {w : World} {B n c : Nat} {A : Option Addr} {xss : List (List Int)} (h : RdUU w B A n c xss) (hn : 0 < n) : RdUU w B (if c = 1 then A else A.map (·.add 1)) (n - 1) (c - 1) (xss.drop 1) := by
  have hbd := h.bd
  have hl := h.len
  cases A with
  | none => obtain ⟨_, _, _, _, h4, _⟩ := h; have := h4 rfl; omega
  | some ad =>
    by_cases hc : c = 1
    · rw [if_pos hc]
      have hn1 : n = 1 := by omega
      have : xss.drop 1 = [] := List.drop_eq_nil_of_le (by omega)
      rw [this]
      exact ⟨[], ⟨by simp; omega, fun h0 => by omega⟩, by omega, by omega, (fun e => by cases e), rfl, fun j q xs a => by simp at a⟩
    · rw [if_neg hc]; exact h.tail hn
end Go.Proofs.Ytklmckbpbloonaa

namespace Go.Proofs.Ytklmckbpbloonaa
open Go.RowKit Go.Shelf

def pBoth (rest : List (List Int)) (x : Int) : Bool := !(rest.any fun m => !hasB m x)
set_option maxRecDepth 100000 in
set_option maxHeartbeats 4000000 in
theorem both_any (B : Nat) (A : Option Addr) (n c : Nat) (xs : List Int) (rest : List (List Int)) (w : World) (h : RdUU w B A n c (xs :: rest)) (hx : xs.length ≤ 1000000) (hB : B ≤ w.heap.size) :
    Calls Try.prog 33 #[.slice A n c] w fun e w' => ∃ r A1 c1, e = .returned (.slice A1 (fltN xs (pBoth rest) xs.length) c1) ∧ OwnU w' r A1 (fltN xs (pBoth rest) xs.length) c1 (fltTo xs (pBoth rest) xs.length) ∧ Below w.heap.size w w' := by
  have hl := h.len
  have hn : 0 < n := by simp at hl; omega
  obtain ⟨hnc, hc⟩ := h.bd
  obtain ⟨ad, y, A', n', c', rfl, hbl, hy, hc1, hR⟩ := h.at_ (k := 0) hn
  rw [Addr.add_zero'] at hc1
  obtain rfl : xs = y := by simpa using hy
  have hl' := hR.len
  obtain ⟨hnc', hcc'⟩ := hR.bd
  have hcut := h.cut1 hn
  simp only [List.drop_succ_cons, List.drop_zero] at hcut
  have HCUT := Lib.hid hcut
  have HLX := Lib.hid hl'
  rw [hl'] at hx ⊢
  have hn0 : ((n : Int) == 0) = false := by simp; omega
  clear hcut hl hy hl' h
  go_enter Try.func33, Try.ntmps33
  go_wp2_with fail
  have hent : ∀ args W, (callFunc 68 args).run Try.prog W = .ok (.enter 68 args) W := enters_of Try.func68 (by kernel_rfl) rfl
  go_loopw [3, 13] (fun o i wr => ∃ (k : Nat) (r : Option Nat) (A2 : Option Addr) (c2 : Nat), k ≤ n' ∧ i = .int .i64 k ∧ o = .slice A2 (fltN xs (pBoth rest) k) c2 ∧ OwnU wr r A2 (fltN xs (pBoth rest) k) c2 (fltTo xs (pBoth rest) k) ∧ (∀ g, r = some g → w.heap.size ≤ g) ∧ Below w.heap.size w wr) (fun _ i _ => n' - (intOf i).toNat)
  case atStart => exact ⟨0, none, none, 0, by omega, rfl, by simp [fltN, fltTo], by simpa [fltN, fltTo] using OwnU.nil_ _ _, by simp, Below.refl _ _⟩
  case round =>
    obtain ⟨k, r, A2, c2, hk, rfl, rfl, hown, hr, hbr⟩ := hrel
    have hq := hR.below (hbr.mono hB)
    have hle := fltN_le xs (pBoth rest) k
    by_cases hlt : k < n'
    · obtain ⟨ad2, x, rfl, hbl2, hx2, hxb, hc2⟩ := hq.at_ hlt
      have HN : Hid (fltN xs (pBoth rest) (k + 1) = fltN xs (pBoth rest) k + if pBoth rest x then 1 else 0) := fltN_succ hx2
      have HT : Hid (fltTo xs (pBoth rest) (k + 1) = fltTo xs (pBoth rest) k ++ if pBoth rest x then [x] else []) := fltTo_succ hx2
      have HO := Lib.hid hown
      have HXB := Lib.hid (Blk.new wr 31 #[.int .u32 x])
      have HCX := Lib.hid (HCUT.out.below ((hbr.alloc hbr.size (.cells #[.int .u32 x] 31)).mono hB))
      clear hx2 hown
      cases hp : rest.any (fun m => !hasB m x)
      · have HP := Lib.hid hp
        clear hp
        go_wp2_with (first
          | (go_at_call 67; refine (containsFuncUU B _ _ _ rest (fun m => !hasB m x) 68 #[.pointer (some ⟨wr.heap.size, 0, none⟩)] _ HCX.out hent (fun A9 n9 c9 xs9 h9 => both1_any B wr.heap.size A9 n9 c9 xs9 x _ h9 HXB.out.c1 HXB.out.lt)).mono ?_; rintro e w' ⟨rfl, rfl⟩; rw [HP.out])
          | (at_builtin; refine appU1 rfl (.tmp 22) (.tmp 24) rfl _ r _ _ c2 (fltTo xs (pBoth rest) k) rfl ((HO.out.alloc _).alloc _) (wr.heap.size + 1) x rfl (by have := Blk.new (wr.alloc (.cells #[.int .u32 x] 31)) 31 #[.int .u32 x]; simpa using this) hxb (by omega) ?_; intro r3 A3 c3 w3 m1 m2 m3))
        go_roundw
        case rel =>
          have hp1 : pBoth rest x = true := by unfold pBoth; rw [HP.out]; rfl
          have hr3 : ∀ g, r3 = some g → w.heap.size ≤ g := fun g e => by
            rcases m3 with h3 | h3
            · exact hr g (by rw [← h3, e])
            · have a1 := h3 g e; have a2 := hbr.size; simp only [World.size_alloc] at a1; omega
          exact ⟨k + 1, r3, A3, c3, by omega, by go_num, by rw [HN.out, hp1]; rfl, by rw [HN.out, HT.out, hp1]; exact m1, hr3, ((hbr.alloc hbr.size _).alloc (by have := hbr.size; simp; omega) _).grown m2 (by have := hbr.size; simp; omega) (fun g e => hr g e)⟩
        case measure => simp [intOf]; omega
      · have HP := Lib.hid hp
        clear hp
        go_wp2_with (first
          | (go_at_call 67; refine (containsFuncUU B _ _ _ rest (fun m => !hasB m x) 68 #[.pointer (some ⟨wr.heap.size, 0, none⟩)] _ HCX.out hent (fun A9 n9 c9 xs9 h9 => both1_any B wr.heap.size A9 n9 c9 xs9 x _ h9 HXB.out.c1 HXB.out.lt)).mono ?_; rintro e w' ⟨rfl, rfl⟩; rw [HP.out]))
        go_roundw
        case rel =>
          have hp1 : pBoth rest x = false := by unfold pBoth; rw [HP.out]; rfl
          exact ⟨k + 1, r, A2, c2, by omega, by go_num, by rw [HN.out, hp1]; rfl, by rw [HN.out, HT.out, hp1]; simpa using HO.out.alloc _, hr, hbr.alloc hbr.size _⟩
        case measure => simp [intOf]; omega
    · obtain rfl : k = n' := by omega
      go_wp2_with fail
      go_ret
      exact ⟨r, A2, c2, rfl, hown, hbr⟩
end Go.Proofs.Ytklmckbpbloonaa
