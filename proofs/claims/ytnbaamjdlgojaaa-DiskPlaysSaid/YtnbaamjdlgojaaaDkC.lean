/- Walks: a crash. -/
import Derived.Test.YtnbaamjdlgojaaaDkK
namespace Go.Proofs.Ytnbaamjdlgojaaa
open Go.RowKit

/-- A []bool that reads as a list. -/
def RdB (w : World) (B : Nat) (A : Option Addr) (n c : Nat) (xs : List Bool) : Prop := Reads w B 1 A n (xs.map Value.bool) ∧ n ≤ c ∧ c ≤ 9223372036854775807
theorem RdB.len {w : World} {B n c : Nat} {A : Option Addr} {xs : List Bool} (h : RdB w B A n c xs) : xs.length = n := by have := h.1.1; simp at this; omega
theorem RdB.at_ {w : World} {B n c k : Nat} {A : Option Addr} {xs : List Bool} (h : RdB w B A n c xs) (hk : k < n) : ∃ ad x, A = some ad ∧ ad.block < B ∧ xs[k]? = some x ∧ w.cell? (ad.add k) = some (.bool x) := by
  obtain ⟨ad, e, hb, hc⟩ := h.1.2 (by omega)
  have hl : k < xs.length := by have := h.len; omega
  exact ⟨ad, xs[k], e, hb, List.getElem?_eq_getElem hl, hc k _ (by simp [hl])⟩
theorem RdB.keep {w w' : World} {B n c : Nat} {A : Option Addr} {xs : List Bool} (h : RdB w B A n c xs) (hk : ∀ p : Addr, p.block < B → w'.cell? p = w.cell? p) : RdB w' B A n c xs := ⟨h.1.keep hk, h.2⟩
theorem RdB.below {w w' : World} {B n c : Nat} {A : Option Addr} {xs : List Bool} (h : RdB w B A n c xs) (hb : Below B w w') : RdB w' B A n c xs := h.keep fun _ hp => hb.cell hp
/-- What lasts behind a crash, when the first k of those that wait have been looked at. -/
def crashTo (last : List Bl) (m : List (Int × Bl)) (ws : List Int) (kept : List Bool) : Nat → List Bl
  | 0 => last
  | k + 1 => if kept.getD k false then (crashTo last m ws kept k).set (ws.getD k 0).toNat ((mget m (ws.getD k 0)).getD zB) else crashTo last m ws kept k
theorem crashTo_len (last : List Bl) (m : List (Int × Bl)) (ws : List Int) (kept : List Bool) : ∀ k, (crashTo last m ws kept k).length = last.length
  | 0 => rfl
  | k + 1 => by
    unfold crashTo; split
    · rw [List.length_set, crashTo_len last m ws kept k]
    · exact crashTo_len last m ws kept k
theorem crashTo_ok {last : List Bl} {m : List (Int × Bl)} (ws : List Int) (kept : List Bool) (h1 : ∀ b ∈ last, okB b) (h2 : ∀ k b, mget m k = some b → okB b) : ∀ k, ∀ b ∈ crashTo last m ws kept k, okB b
  | 0 => h1
  | k + 1 => by
    unfold crashTo; split
    · intro b hb
      rcases List.mem_or_eq_of_mem_set hb with hb | rfl
      · exact crashTo_ok ws kept h1 h2 k b hb
      · cases hg : mget m (ws.getD k 0) with
        | none => exact zB_ok
        | some v => exact h2 _ _ hg
    · exact crashTo_ok ws kept h1 h2 k
def crashed (s : DS) (kept : List Bool) : DS := { s with fuse := -1, down := false, cache := [], last := crashTo s.last s.cache (waitL s) kept (waitL s).length }
theorem crashed_ok {s : DS} (h : DsOk s) (kept : List Bool) : DsOk (crashed s kept) := by
  unfold crashed
  exact ⟨by simp only [crashTo_len]; exact h.lo, by simp only [crashTo_len]; exact h.hi, (fun k hk => by simp [mkeys] at hk), by simp [mkeys], (fun k b hb => by simp [mget] at hb), crashTo_ok _ _ h.last h.bls _, by simp⟩
theorem waitL_mem {s : DS} {k : Int} : k ∈ waitL s ↔ k ∈ mkeys s.cache := by unfold waitL; exact (List.mergeSort_perm _ _).mem_iff
theorem crash_nil (A : Option Addr) (n c : Nat) (w : World) : Calls Try.prog 12 #[.pointer none, .slice A n c] w fun e w' => e = .returned (.tuple #[]) ∧ w = w' := by
  go_enter Try.func12, Try.ntmps12
  go_wp2
  exact bodyPost_ret (v := .tuple #[]) (by simp [results, Try.results12]) rfl ⟨rfl, rfl⟩
set_option maxRecDepth 100000 in
set_option maxHeartbeats 2000000 in
theorem crash_any (g b l B : Nat) (s : DS) (A : Option Addr) (n c : Nat) (kept : List Bool) (w : World) (h : DkAt w g b l s) (hl : s.cache.length ≤ 4096) (hk : RdB w B A n c kept) (hB : B ≤ w.heap.size) (hg : B ≤ g) (hb : B ≤ b) (hlB : B ≤ l) :
    Calls Try.prog 12 #[.pointer (some ⟨g, 0, none⟩), .slice A n c] w fun e w' => e = .returned (.tuple #[]) ∧ DkAt w' g b l (crashed s kept) ∧ Chg [g, b, l] w w' := by
  have hwn : (waitL s).length ≤ 4096 := by rw [waitL_len]; exact hl
  obtain ⟨n1, n2, n3⟩ := h.ne
  have HKL := Lib.hid hk.len
  have hnc := hk.2.1
  have hcc := hk.2.2
  have hgw := h.head.lt
  have hbw := h.cache.lt
  have hlw := h.last.1.lt
  go_enter Try.func12, Try.ntmps12
  go_wp2_with (go_at_call 11; refine (waits_any _ _ _ _ _ h hl).mono ?_; rintro e w1 ⟨A1, c1, rfl, hc1, hc2, hR, hA1, hB1⟩)
  have hd := Lib.hid (h.below hB1)
  have hmk : Hid (∀ k ∈ waitL s, ∃ v, mget s.cache k = some v ∧ okB v ∧ 0 ≤ k ∧ k < (s.last.length : Int)) := fun k hk => by
    have hk := waitL_mem.1 hk
    obtain ⟨v, hv⟩ := Option.isSome_iff_exists.1 (mget_some.2 hk)
    exact ⟨v, hv, h.ok.bls k v hv, h.ok.keys k hk⟩
  have hok := Lib.hid h.ok
  have hcrl := crashTo_len s.last s.cache (waitL s) kept
  have HCL := Lib.hid hcrl
  have hlo := h.ok.lo
  have hhi := h.ok.hi
  clear h hcrl
  generalize hWS : waitL s = ws at *
  have HWS := Lib.hid hWS
  clear hWS
  generalize hWL : ws.length = wn at *
  have HWL := Lib.hid hWL
  clear hWL
  have J3 : Hid (Chg [g, b, l] w w1) := Chg.of_below hB1 _
  clear hB1
  go_loopw [4, 5, 11] (fun i4 i5 i wr => ∃ k : Nat, k ≤ wn ∧ i = .int .i64 k ∧ Blk wr g 59 (dkCells s b l) ∧ MapOf wr b .i64 encB s.cache ∧ LastAt wr l (crashTo s.last s.cache ws kept k) ∧ Chg [l] w1 wr) (fun _ _ i _ => wn - (intOf i).toNat)
  case atStart => exact ⟨0, by omega, rfl, hd.out.head, hd.out.cache, hd.out.last, Chg.refl _ _⟩
  case round =>
    obtain ⟨k, hkn, rfl, hh, hm, hL, hC⟩ := hrel
    have hgl := hh.lt
    have x3 : wr.cell? ⟨g, 3, none⟩ = some (.map (some b)) := hh.cell 3
    have x4 : wr.cell? ⟨g, 4, none⟩ = some (.slice (some ⟨l, 0, none⟩) s.last.length s.last.length) := hh.cell 4
    have HH := Lib.hid hh
    have HM := Lib.hid hm
    have HL := Lib.hid hL
    have HC := Lib.hid hC
    clear hh hm hL hC
    by_cases hlt : k < wn
    · obtain ⟨ad, x, rfl, hbl, hx, hcx⟩ := (hR.chg HC.out (fun ad e => by have := hA1 ad e; simp; omega)).at_ hlt
      have HX := Lib.hid hx
      obtain ⟨v, hv, hvo, hx1, hx2⟩ := hmk.out x (List.mem_of_getElem? hx)
      obtain ⟨kk, rfl⟩ : ∃ kk : Nat, x = kk := ⟨x.toNat, by omega⟩
      have hkl : kk < s.last.length := by omega
      have hV := Lib.hid hv
      have hgetv : ((mget s.cache (kk : Int)).map encB).getD (.agg (ca zB)) = .agg (ca v) := by rw [hv]; rfl
      have HCW := Lib.hid (J3.out.trans (HC.out.more (by simp)))
      have hkq := hk.below (HCW.out.below hB (by simp; omega))
      have HGX : Hid (ws.getD k 0 = (kk : Int)) := by show _ = _; rw [List.getD_eq_getElem?_getD, HX.out]; rfl
      clear hv hx hk
      have skip : ∀ {b0 : Bool}, kept.getD k false = false → LastAt wr l (crashTo s.last s.cache ws kept (k + 1)) := fun e => by
        have := HL.out; unfold crashTo; rw [e]; exact this
      have HSK := Lib.hid (@skip true)
      clear skip
      by_cases hkn2 : k < n
      · obtain ⟨ad2, kb, rfl, hbl2, hx2', hck⟩ := hkq.at_ hkn2
        have HKB : Hid (kept.getD k false = kb) := by show _ = _; rw [List.getD_eq_getElem?_getD, hx2']; rfl
        clear hx2'
        cases kb
        · go_wp2_with fail
          go_roundw
          case rel => exact ⟨k + 1, by omega, by go_num, HH.out, HM.out, HSK.out HKB.out, HC.out⟩
          case measure => simp [intOf]; omega
        · go_wp2_with fail
          go_still_tail 12, (by kernel_rfl)
          refine wpStill_look rfl (.tmp 34) (.tmp 35) 57 3 33 rfl Try.underlying57 Try.underlying3 zeroB (kk : Int) (enc := encB) (m := s.cache) (b := b) HM.out.drew rfl rfl ?_
          rw [hgetv]
          repeat still_step
          refine wpStill_nil ?_
          change wpList _ _ _ _ _ wr.drew
          have hL5 : LastAt wr.drew l (crashTo s.last s.cache ws kept k) := HL.out
          go_wp2_with (first
            | ((with_reducible refine wpList_storeAt (o := ⟨none, .store _ _ _, _, _, _, _⟩) ?_ (.tmp 37) (.tmp 36) ?_ l kk (crashTo s.last s.cache ws kept k) v ?_ ?_ hL5 ?_ hvo ?_); rfl; rfl; simp [Act.eval]; rfl; rw [crashTo_len]; exact hkl; intro w5 p1 p2 p3))
          go_roundw
          case rel =>
            refine ⟨k + 1, by omega, by go_num, p2.blk (w := wr.drew) HH.out (by simp; exact n2), p2.map (w := wr.drew) HM.out (by simp; exact n3), ?_, HC.out.drew.trans p2⟩
            have e1 : crashTo s.last s.cache ws kept (k + 1) = (crashTo s.last s.cache ws kept k).set kk v := by
              rw [crashTo, HKB.out, if_pos rfl, HGX.out, hV.out]; rfl
            rw [e1]; exact p1
          case measure => simp [intOf]; omega
      · have HKB : Hid (kept.getD k false = false) := by show _ = _; rw [List.getD_eq_getElem?_getD, List.getElem?_eq_none (by have := HKL.out; omega)]; rfl
        have hkd : decide (k < n) = false := by simpa using hkn2
        go_wp2_with fail
        go_roundw
        case rel => exact ⟨k + 1, by omega, by go_num, HH.out, HM.out, HSK.out HKB.out, HC.out⟩
        case measure => simp [intOf]; omega
    · obtain rfl : k = wn := by omega
      have f1 := HH.out.frozen 1
      have f2 := HH.out.frozen 2
      have x1 : wr.cell? ⟨g, 1, none⟩ = some (.int .i64 s.fuse) := HH.out.cell 1
      have x2 : wr.cell? ⟨g, 2, none⟩ = some (.bool s.down) := HH.out.cell 2
      go_wp2_with (first
        | ((with_reducible refine wpList_mclear (q := .i64) (enc := encB) (m := s.cache) ?_ (.tmp 42) 57 3 33 ?_ ?_ HM.out ?_ ?_); rfl; rfl; exact Try.underlying57; rfl; intro w4 q1 q2 q3; have H4 := (q2.block g HH.out.lt (by simp; exact n1)).trans HH.out; have y1 : w4.cell? ⟨g, 1, none⟩ = some (.int .i64 s.fuse) := Blk.cell H4 1; have y2 : w4.cell? ⟨g, 2, none⟩ = some (.bool s.down) := Blk.cell H4 2; have y3 := Blk.frozen H4 1; have y4 := Blk.frozen H4 2; have y5 := Blk.lt H4))
      go_end0
      have e1 : dkCells (crashed s kept) b l = ((dkCells s b l).setIfInBounds 2 (.bool false)).setIfInBounds 1 (.int .i64 (-1)) := by
        unfold crashed dkCells; simp [crashTo_len]
      have e2 : (crashed s kept).last = crashTo s.last s.cache ws kept k := by unfold crashed; simp only [HWS.out, HWL.out]
      have H4 : Blk w4 g 59 (dkCells s b l) := H4
      have hb5 := q1
      have hL4 := HL.out.keep (q2.block l HL.out.1.lt (by simp; exact Ne.symm n3))
      have hC4 : Chg [g, b, l] w w4 := (J3.out.trans (HC.out.more (by simp))).grown q2 (by simp)
      refine ⟨rfl, ⟨by rw [e1]; exact (H4.set_ 2 _).set_ 1 _, ?_, ?_, crashed_ok hok.out kept⟩, (hC4.setCell (p := ⟨g, 2, none⟩) (by simp) _).setCell (p := ⟨g, 1, none⟩) (by simp) _⟩
      · exact (hb5.setCell (p := ⟨g, 2, none⟩) (by simp; omega) _).setCell (p := ⟨g, 1, none⟩) (by simp; omega) _
      · rw [e2]
        exact hL4.keep ((Below.heap_setCell _ ⟨g, 1, none⟩ _ l (by simp; omega)).trans (Below.heap_setCell _ ⟨g, 2, none⟩ _ l (by simp; omega)))
end Go.Proofs.Ytnbaamjdlgojaaa
