/- Walks: layer 18, what all of some rows have. -/
import Derived.Test.YtklmckbpbloonaaUnionE
namespace Go.Proofs.Ytklmckbpbloonaa
open Go.RowKit Go.Shelf

def pBoth (rest : List (List Int)) (x : Int) : Bool := !(rest.any fun m => !hasB m x)
set_option maxRecDepth 100000 in
set_option maxHeartbeats 4000000 in
theorem both_any (B : Nat) (A : Option Addr) (n c : Nat) (xs : List Int) (rest : List (List Int)) (w : World) (h : RdUU w B A n c (xs :: rest)) (hx : xs.length ≤ 1000000) (hB : B ≤ w.heap.size) :
    Calls Try.prog 33 #[.slice A n c] w fun e w' => ∃ r A1 c1, e = .returned (.slice A1 (fltN xs (pBoth rest) xs.length) c1) ∧ OwnU w' r A1 (fltN xs (pBoth rest) xs.length) c1 (fltTo xs (pBoth rest) xs.length) ∧ Below w.heap.size w w' := by
  have hl := h.len
  have hn : 0 < n := by simp at hl; omega
  obtain ⟨hnc, hc⟩ := h.bd
  obtain ⟨ad, y, A', n', c', rfl, hbl, hy, hc1, hR⟩ := h.at_ (k := 0) hn
  rw [Addr.add_zero'] at hc1
  obtain rfl : xs = y := by simpa using hy
  have hl' := hR.len
  obtain ⟨hnc', hcc'⟩ := hR.bd
  have hcut := h.cut1 hn
  simp only [List.drop_succ_cons, List.drop_zero] at hcut
  have HCUT := Lib.hid hcut
  have HLX := Lib.hid hl'
  rw [hl'] at hx ⊢
  have hn0 : ((n : Int) == 0) = false := by simp; omega
  clear hcut hl hy hl' h
  go_enter Try.func33, Try.ntmps33
  go_wp2_with fail
  have hent : ∀ args W, (callFunc 68 args).run Try.prog W = .ok (.enter 68 args) W := enters_of Try.func68 (by kernel_rfl) rfl
  go_loopw [3, 13] (fun o i wr => ∃ (k : Nat) (r : Option Nat) (A2 : Option Addr) (c2 : Nat), k ≤ n' ∧ i = .int .i64 k ∧ o = .slice A2 (fltN xs (pBoth rest) k) c2 ∧ OwnU wr r A2 (fltN xs (pBoth rest) k) c2 (fltTo xs (pBoth rest) k) ∧ (∀ g, r = some g → w.heap.size ≤ g) ∧ Below w.heap.size w wr) (fun _ i _ => n' - (intOf i).toNat)
  case atStart => exact ⟨0, none, none, 0, by omega, rfl, by simp [fltN, fltTo], by simpa [fltN, fltTo] using OwnU.nil_ _ _, by simp, Below.refl _ _⟩
  case round =>
    obtain ⟨k, r, A2, c2, hk, rfl, rfl, hown, hr, hbr⟩ := hrel
    have hq := hR.below (hbr.mono hB)
    have hle := fltN_le xs (pBoth rest) k
    by_cases hlt : k < n'
    · obtain ⟨ad2, x, rfl, hbl2, hx2, hxb, hc2⟩ := hq.at_ hlt
      have HN : Hid (fltN xs (pBoth rest) (k + 1) = fltN xs (pBoth rest) k + if pBoth rest x then 1 else 0) := fltN_succ hx2
      have HT : Hid (fltTo xs (pBoth rest) (k + 1) = fltTo xs (pBoth rest) k ++ if pBoth rest x then [x] else []) := fltTo_succ hx2
      have HO := Lib.hid hown
      have HXB := Lib.hid (Blk.new wr 31 #[.int .u32 x])
      have HCX := Lib.hid (HCUT.out.below ((hbr.alloc hbr.size (.cells #[.int .u32 x] 31)).mono hB))
      clear hx2 hown
      cases hp : rest.any (fun m => !hasB m x)
      · have HP := Lib.hid hp
        clear hp
        go_wp2_with (first
          | (go_at_call 67; refine (containsFuncUU B _ _ _ rest (fun m => !hasB m x) 68 #[.pointer (some ⟨wr.heap.size, 0, none⟩)] _ HCX.out hent (fun A9 n9 c9 xs9 h9 => both1_any B wr.heap.size A9 n9 c9 xs9 x _ h9 HXB.out.c1 HXB.out.lt)).mono ?_; rintro e w' ⟨rfl, rfl⟩; rw [HP.out])
          | (at_builtin; refine appU1 rfl (.tmp 22) (.tmp 24) rfl _ r _ _ c2 (fltTo xs (pBoth rest) k) rfl ((HO.out.alloc _).alloc _) (wr.heap.size + 1) x rfl (by have := Blk.new (wr.alloc (.cells #[.int .u32 x] 31)) 31 #[.int .u32 x]; simpa using this) hxb (by omega) ?_; intro r3 A3 c3 w3 m1 m2 m3))
        go_roundw
        case rel =>
          have hp1 : pBoth rest x = true := by unfold pBoth; rw [HP.out]; rfl
          have hr3 : ∀ g, r3 = some g → w.heap.size ≤ g := fun g e => by
            rcases m3 with h3 | h3
            · exact hr g (by rw [← h3, e])
            · have a1 := h3 g e; have a2 := hbr.size; simp only [World.size_alloc] at a1; omega
          exact ⟨k + 1, r3, A3, c3, by omega, by go_num, by rw [HN.out, hp1]; rfl, by rw [HN.out, HT.out, hp1]; exact m1, hr3, ((hbr.alloc hbr.size _).alloc (by have := hbr.size; simp; omega) _).grown m2 (by have := hbr.size; simp; omega) (fun g e => hr g e)⟩
        case measure => simp [intOf]; omega
      · have HP := Lib.hid hp
        clear hp
        go_wp2_with (first
          | (go_at_call 67; refine (containsFuncUU B _ _ _ rest (fun m => !hasB m x) 68 #[.pointer (some ⟨wr.heap.size, 0, none⟩)] _ HCX.out hent (fun A9 n9 c9 xs9 h9 => both1_any B wr.heap.size A9 n9 c9 xs9 x _ h9 HXB.out.c1 HXB.out.lt)).mono ?_; rintro e w' ⟨rfl, rfl⟩; rw [HP.out]))
        go_roundw
        case rel =>
          have hp1 : pBoth rest x = false := by unfold pBoth; rw [HP.out]; rfl
          exact ⟨k + 1, r, A2, c2, by omega, by go_num, by rw [HN.out, hp1]; rfl, by rw [HN.out, HT.out, hp1]; simpa using HO.out.alloc _, hr, hbr.alloc hbr.size _⟩
        case measure => simp [intOf]; omega
    · obtain rfl : k = n' := by omega
      go_wp2_with fail
      go_ret
      exact ⟨r, A2, c2, rfl, hown, hbr⟩
end Go.Proofs.Ytklmckbpbloonaa
