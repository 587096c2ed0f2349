/- Parts of the proof: SortE7. -/
import Derived.Test.YtklmckbpbloonaaBC19
import Derived.Test.YtklmckbpbloonaaBC13
namespace Go.Proofs.Ytklmckbpbloonaa
open Go.RowKit

theorem symMerge_any : ∀ (N : Nat) (g c a m b : Nat) (es : List Edg) (w : World), b - a ≤ N → RowE w g c es → a < m → m < b → b ≤ es.length → es.length ≤ 1000000 → Srt es a m → Srt es m b →
      Calls Try.prog 141 #[.slice (some ⟨g, 0, none⟩) es.length c, .int .i64 a, .int .i64 m, .int .i64 b, .func (.func 82) #[] #[]] w fun e w' => e = .returned (.tuple #[]) ∧ ∃ es', RowE w' g c es' ∧ Like a b es es' ∧ Srt es' a b ∧ Chg [g] w w'
  | 0, g, c, a, m, b, es, w, hN, h, ham, hmb, hb, hsz, hA, hB => by omega
  | N + 1, g, c, a, m, b, es, w, hN, h, ham, hmb, hb, hsz, hA, hB => by
    by_cases h1 : m = a + 1
    · exact symMerge_one g c a m b es w h h1 hmb hb hsz hB
    · by_cases h2 : b = m + 1
      · exact symMerge_two g c a m b es w h (by omega) h2 hb hsz hA
      · exact symMerge_step N (symMerge_any N) g c a m b es w hN h (by omega) (by omega) hb hsz hA hB
set_option maxRecDepth 100000 in
set_option maxHeartbeats 4000000 in
theorem stable_any (g c : Nat) (es : List Edg) (w : World) (h : RowE w g c es) (hsz : es.length ≤ 100000) :
    Calls Try.prog 109 #[.slice (some ⟨g, 0, none⟩) es.length c, .int .i64 es.length, .func (.func 82) #[] #[]] w fun e w' => e = .returned (.tuple #[]) ∧ ∃ es', RowE w' g c es' ∧ es'.Perm es ∧ Srt es' 0 es.length ∧ Chg [g] w w' := by
  have HW := Lib.hid h
  generalize hnn : es.length = nn at *
  have HNN := Lib.hid hnn
  have hins : ∀ (cur : List Edg) (a b : Nat) (W : World), RowE W g c cur → cur.length = nn → a ≤ b → b ≤ nn →
      Calls Try.prog 140 #[.slice (some ⟨g, 0, none⟩) nn c, .int .i64 a, .int .i64 b, .func (.func 82) #[] #[]] W fun e w' => e = .returned (.tuple #[]) ∧ ∃ es', RowE w' g c es' ∧ Like a b cur es' ∧ Srt es' a b ∧ Chg [g] W w' := fun cur a b W k1 k2 k3 k4 => by
    have := insertion_any g c a b cur W k1 k3 (by omega) (by omega)
    rwa [k2] at this
  have hmer : ∀ (cur : List Edg) (a m b : Nat) (W : World), RowE W g c cur → cur.length = nn → a < m → m < b → b ≤ nn → Srt cur a m → Srt cur m b →
      Calls Try.prog 141 #[.slice (some ⟨g, 0, none⟩) nn c, .int .i64 a, .int .i64 m, .int .i64 b, .func (.func 82) #[] #[]] W fun e w' => e = .returned (.tuple #[]) ∧ ∃ es', RowE w' g c es' ∧ Like a b cur es' ∧ Srt es' a b ∧ Chg [g] W w' := fun cur a m b W k1 k2 k3 k4 k5 k6 k7 => by
    have := symMerge_any (b - a) g c a m b cur W (Nat.le_refl _) k1 k3 k4 (by omega) (by omega) k6 k7
    rwa [k2] at this
  clear h hnn
  go_enter Try.func109, Try.ntmps109
  go_wp2_with fail
  go_loopw [7, 8] (fun s7 s8 wr => ∃ (k a b : Nat) (cur : List Edg), s7 = .int .i64 a ∧ s8 = .int .i64 b ∧ RowE wr g c cur ∧ Hid (a = k * 20 ∧ b = a + 20 ∧ a ≤ nn ∧ Like 0 nn es cur ∧ Ones cur k) ∧ Chg [g] w wr) (fun s7 _ _ => nn - (intOf s7).toNat)
  case atStart => exact ⟨0, 0, 20, es, rfl, rfl, HW.out, ⟨rfl, rfl, Nat.zero_le _, Like.refl _ _ _, ⟨fun i hi => by omega⟩⟩, Chg.refl _ _⟩
  case round =>
    clear HW
    obtain ⟨k, a, b, cur, rfl, rfl, hr, hL, hC⟩ := hrel
    have HR := Lib.hid hr
    have HC := Lib.hid hC
    clear hr hC
    obtain ⟨l1, l2, l3, l4, l5⟩ := hL.out
    have hcl := l4.len
    rw [HNN.out] at hcl
    have HCL := Lib.hid hcl
    have HL1 := Lib.hid l1
    have HL2 := Lib.hid l2
    have q1 : IntKind.i64.wrap ((b : Int) + 20) = ((b + 20 : Nat) : Int) := by rw [IntWalk.i64_in _ (by omega)]; omega
    have hab : a ≤ b := by omega
    have hbn : b ≤ 100020 := by omega
    clear hcl l1 l2 hL
    by_cases hlt : b ≤ nn
    · go_wp2_with fail
      refine (hins cur a b _ HR.out HCL.out hab hlt).mono ?_
      rintro _ w2 ⟨rfl, cur2, r2, L2, S2, C2⟩
      go_wp2_with fail
      go_roundw
      case rel =>
        have e1 := HL1.out
        have e2 := HL2.out
        subst e1 e2
        exact ⟨k + 1, k * 20 + 20, k * 20 + 20 + 20, cur2, by go_num, by go_num, r2, ⟨by omega, rfl, hlt, l4.trans (L2.more (Nat.zero_le _) hlt), l5.next L2 S2⟩, HC.out.trans C2⟩
      case measure => have := HL2.out; simp [intOf]; omega
    · have hd : decide ((b : Int) ≤ (nn : Int)) = false := by simp; omega
      go_wp2_with fail
      refine (hins cur a nn _ HR.out HCL.out l3 (Nat.le_refl _)).mono ?_
      rintro _ w2 ⟨rfl, cur2, r2, L2, S2, C2⟩
      have HB : Hid (Blks cur2 20 nn) := by
        show Blks _ _ _
        have e1 := HL1.out
        have e2 := HL2.out
        subst e1
        exact l5.done l3 (by omega) L2 S2
      have HR2 := Lib.hid r2
      have HK2 := Lib.hid (l4.trans (L2.more (Nat.zero_le _) (Nat.le_refl _)))
      have HC2 := Lib.hid (HC.out.trans C2)
      clear r2 L2 S2 C2 l4 l5 HR HC HCL HL1 HL2 q1
      go_wp2_with fail
      go_loopw [6, 7, 8, 9] (fun s6 _ _ _ wr => ∃ (bs : Nat) (cur : List Edg), s6 = .int .i64 bs ∧ 0 < bs ∧ bs ≤ 400000 ∧ RowE wr g c cur ∧ Hid (Like 0 nn es cur ∧ Blks cur bs nn) ∧ Chg [g] w wr) (fun s6 _ _ _ _ => nn - (intOf s6).toNat)
      case atStart => exact ⟨20, cur2, rfl, by omega, by omega, HR2.out, ⟨HK2.out, HB.out⟩, HC2.out⟩
      case round =>
        clear HB HR2 HK2 HC2 hd hlt hab hbn l3
        obtain ⟨bs, cur, rfl, hb1, hb2, hr, hL, hC⟩ := hrel
        have HR := Lib.hid hr
        have HC := Lib.hid hC
        clear hr hC
        by_cases hlt : bs < nn
        · obtain ⟨tb, htb⟩ : ∃ x, x = 2 * bs := ⟨_, rfl⟩
          have q2 : IntKind.i64.wrap (2 * (bs : Int)) = (tb : Int) := by rw [IntWalk.i64_in _ (by omega)]; omega
          have q3 : IntKind.i64.wrap ((bs : Int) * 2) = (tb : Int) := by rw [IntWalk.i64_in _ (by omega)]; omega
          have HTB := Lib.hid htb
          have htb2 : tb ≤ 200000 := by omega
          have htb3 : bs < tb := by omega
          clear htb
          obtain ⟨wq, rfl⟩ : ∃ x, x = wr := ⟨_, rfl⟩
          go_wp2_with fail
          go_loopw [7, 8] (fun s7 s8 wr => ∃ (k a b : Nat) (cur : List Edg), s7 = .int .i64 a ∧ s8 = .int .i64 b ∧ RowE wr g c cur ∧ Hid (a = k * (2 * bs) ∧ b = a + tb ∧ a ≤ nn ∧ Like 0 nn es cur ∧ Half cur bs nn k) ∧ Chg [g] w wr) (fun s7 _ _ => nn - (intOf s7).toNat)
          case atStart => exact ⟨0, 0, tb, cur, rfl, rfl, HR.out, ⟨by omega, by omega, Nat.zero_le _, hL.out.1, Half.start hL.out.2⟩, HC.out⟩
          case round =>
            clear HR HC hL
            obtain ⟨k, a, b, cur, rfl, rfl, hr, hL, hC⟩ := hrel
            have HR := Lib.hid hr
            have HC := Lib.hid hC
            clear hr hC
            obtain ⟨l1, l2, l3, l4, l5⟩ := hL.out
            have hcl := l4.len
            rw [HNN.out] at hcl
            obtain ⟨am, ham⟩ : ∃ x, x = a + bs := ⟨_, rfl⟩
            have q4 : IntKind.i64.wrap ((a : Int) + (bs : Int)) = (am : Int) := by rw [IntWalk.i64_in _ (by omega)]; omega
            have q5 : IntKind.i64.wrap ((b : Int) + (tb : Int)) = ((b + tb : Nat) : Int) := by rw [IntWalk.i64_in _ (by omega)]; omega
            have HCL := Lib.hid hcl
            have HL1 := Lib.hid l1
            have HL2 := Lib.hid l2
            have HAM := Lib.hid ham
            have hleft : Hid (am ≤ nn → Srt cur a am) := fun h => by
              have := l5.left (.inr (by rw [← l1]; omega))
              rw [← l1, ← ham] at this; exact this
            have hright : Hid (Srt cur am (min b nn)) := by
              have := l5.right
              rw [← l1, ← ham, ← HTB.out, ← l2] at this; exact this
            clear hcl l1 l2 ham hL
            by_cases hlt2 : b ≤ nn
            · go_wp2_with fail
              refine (hmer cur a am b _ HR.out HCL.out (by have := HAM.out; omega) (by have := HAM.out; have := HL2.out; omega) hlt2 (hleft.out (by have := HAM.out; have := HL2.out; omega)) (by have := hright.out; rwa [Nat.min_eq_left hlt2] at this)).mono ?_
              rintro _ w2 ⟨rfl, cur2, r2, L2, S2, C2⟩
              go_wp2_with fail
              go_roundw
              case rel =>
                have e1 := HL1.out
                have e2 := HL2.out
                have e3 := HTB.out
                have L3 := L2
                have S3 := S2
                rw [e2, e3, e1] at L3 S3
                exact ⟨k + 1, b, b + tb, cur2, rfl, by go_num, r2, ⟨by rw [Nat.succ_mul, ← e1, ← e3]; exact e2, rfl, hlt2, l4.trans (L2.more (Nat.zero_le _) hlt2), l5.next L3 S3⟩, HC.out.trans C2⟩
              case measure => have := HL2.out; simp [intOf]; omega
            · have hd : decide ((b : Int) ≤ (nn : Int)) = false := by simp; omega
              have hfin : Hid (∀ cur2, Like a nn cur cur2 → Srt cur2 a nn → Blks cur2 tb nn) := fun cur2 L2 S2 => by
                have e1 := HL1.out
                have e2 := HL2.out
                have e3 := HTB.out
                rw [e1] at L2 S2
                rw [e3]
                exact l5.done (by rw [← e1]; exact l3) (by rw [← e1, ← e3, ← e2]; omega) L2 S2
              by_cases hlt3 : am < nn
              · go_wp2_with fail
                refine (hmer cur a am nn _ HR.out HCL.out (by have := HAM.out; omega) hlt3 (Nat.le_refl _) (hleft.out (by omega)) (by have := hright.out; rwa [Nat.min_eq_right (by omega)] at this)).mono ?_
                rintro _ w2 ⟨rfl, cur2, r2, L2, S2, C2⟩
                go_wp2_with fail
                go_roundw
                case rel => exact ⟨tb, cur2, by go_num, by omega, by omega, r2, ⟨l4.trans (L2.more (Nat.zero_le _) (Nat.le_refl _)), hfin.out _ L2 S2⟩, HC.out.trans C2⟩
                case measure => simp [intOf]; omega
              · have hd2 : decide ((am : Int) < (nn : Int)) = false := by simp; omega
                have hS : Srt cur a nn := by
                  by_cases e : am ≤ nn
                  · have e2 : am = nn := by omega
                    rw [← e2]; exact hleft.out e
                  · intro p q c1 c2 c3
                    have := l5.hi (2 * k) (Nat.le_refl _)
                    rw [← twos, ← HL1.out, ← HAM.out, Nat.min_eq_right (by omega)] at this
                    exact this p q c1 c2 c3
                go_wp2_with fail
                go_roundw
                case rel => exact ⟨tb, cur, by go_num, by omega, by omega, HR.out, ⟨l4, hfin.out _ (Like.refl _ _ _) hS⟩, HC.out⟩
                case measure => simp [intOf]; omega
        · have hd : decide ((bs : Int) < (nn : Int)) = false := by simp; omega
          go_wp2_with fail
          go_end0
          exact ⟨rfl, cur, HR.out, hL.out.1.perm, hL.out.2.all (by omega), HC.out⟩
end Go.Proofs.Ytklmckbpbloonaa
