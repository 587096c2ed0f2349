/- Walks: the reference's Crash. -/
import Derived.Test.YtnbaamjdlgojaaaDkJ
namespace Go.Proofs.Ytnbaamjdlgojaaa
open Go.RowKit

theorem OwnI.chg {w w' : World} {r : Option Nat} {A : Option Addr} {n c : Nat} {xs : List Int} {S : List Nat} (h : OwnI w r A n c xs) (hc : Chg S w w') (hS : ∀ g, r = some g → g ∉ S) : OwnI w' r A n c xs := by
  refine ⟨?_, h.2⟩
  have hl := h.lt
  have h := h.1
  cases r with
  | none => exact h
  | some g =>
    obtain ⟨h1, h2, h3, h4, cur, h5, h6⟩ := h
    exact ⟨h1, h2, h3, h4, cur, (hc.block g (hl g rfl) (hS g rfl)).trans h5, h6⟩
theorem OwnI.at_ {w : World} {r : Option Nat} {A : Option Addr} {n c k : Nat} {xs : List Int} (h : OwnI w r A n c xs) (hk : k < n) : ∃ g x, r = some g ∧ A = some ⟨g, 0, none⟩ ∧ g < w.heap.size ∧ xs[k]? = some x ∧ w.cell? ⟨g, k, none⟩ = some (.int .i64 x) ∧ c ≤ 9223372036854775807 := by
  have hl := h.lt
  have hr := h.reads
  have hlen := h.len
  have h := h.1
  cases r with
  | none => obtain ⟨h1, h2, h3, h4⟩ := h; simp only at h4; omega
  | some g =>
    obtain ⟨h1, h2, h3, rfl, cur, h5, h6⟩ := h
    obtain ⟨ad, e, hb, hc⟩ := hr.2 (by omega)
    cases e
    refine ⟨g, xs[k]'(by omega), rfl, rfl, hl g rfl, List.getElem?_eq_getElem (by omega), ?_, h2⟩
    have := hc k (.int .i64 (xs[k]'(by omega))) (by simp [I64, List.getElem?_eq_getElem (show k < xs.length by omega)])
    rw [Addr.add_lit, Nat.zero_add] at this
    exact this
def shTo (s : DS) (ws : List Int) (kept : List Bool) : Nat → List Bl
  | 0 => shownL s
  | k + 1 => (shTo s ws kept k).set (ws.getD k 0).toNat ((crashTo s.last s.cache ws kept (k + 1)).getD (ws.getD k 0).toNat [])
def waTo (s : DS) (ws : List Int) : Nat → List Bool
  | 0 => waitF s
  | k + 1 => (waTo s ws k).set (ws.getD k 0).toNat false
theorem shTo_len (s : DS) (ws : List Int) (kept : List Bool) : ∀ k, (shTo s ws kept k).length = s.last.length
  | 0 => shown_len s
  | k + 1 => by unfold shTo; rw [List.length_set, shTo_len s ws kept k]
theorem waTo_len (s : DS) (ws : List Int) : ∀ k, (waTo s ws k).length = s.last.length
  | 0 => waitF_len s
  | k + 1 => by unfold waTo; rw [List.length_set, waTo_len s ws k]
/-- Those of the first k. -/
def among (ws : List Int) (k i : Nat) : Prop := ∃ j, j < k ∧ (ws.getD j 0).toNat = i
theorem among_succ {ws : List Int} {k i : Nat} : among ws (k + 1) i ↔ among ws k i ∨ (ws.getD k 0).toNat = i := by
  unfold among
  constructor
  · rintro ⟨j, hj, e⟩
    by_cases h : j = k
    · subst h; exact .inr e
    · exact .inl ⟨j, by omega, e⟩
  · rintro (⟨j, hj, e⟩ | e)
    · exact ⟨j, by omega, e⟩
    · exact ⟨k, by omega, e⟩
theorem shTo_at (s : DS) (ws : List Int) (kept : List Bool) : ∀ k i, i < s.last.length → (among ws k i → (shTo s ws kept k)[i]? = (crashTo s.last s.cache ws kept k)[i]?) ∧ (¬ among ws k i → (shTo s ws kept k)[i]? = (shownL s)[i]? ∧ (crashTo s.last s.cache ws kept k)[i]? = s.last[i]?)
  | 0, i, hi => ⟨fun ⟨j, hj, _⟩ => by omega, fun _ => ⟨rfl, rfl⟩⟩
  | k + 1, i, hi => by
    obtain ⟨h1, h2⟩ := shTo_at s ws kept k i hi
    have hc : (ws.getD k 0).toNat ≠ i → (crashTo s.last s.cache ws kept (k + 1))[i]? = (crashTo s.last s.cache ws kept k)[i]? := fun hne => by
      rw [crashTo]; split
      · rw [List.getElem?_set_ne hne]
      · rfl
    have hs : (ws.getD k 0).toNat ≠ i → (shTo s ws kept (k + 1))[i]? = (shTo s ws kept k)[i]? := fun hne => by
      rw [shTo, List.getElem?_set_ne hne]
    constructor
    · intro ha
      by_cases e : (ws.getD k 0).toNat = i
      · rw [shTo, e, List.getElem?_set_self (by rw [shTo_len]; exact hi), List.getD_eq_getElem?_getD, List.getElem?_eq_getElem (by rw [crashTo_len]; exact hi)]; rfl
      · rw [hs e, hc e]
        rcases among_succ.1 ha with ha | ha
        · exact h1 ha
        · exact absurd ha e
    · intro ha
      have ha' : ¬ among ws k i ∧ (ws.getD k 0).toNat ≠ i := ⟨fun h => ha (among_succ.2 (.inl h)), fun h => ha (among_succ.2 (.inr h))⟩
      rw [hs ha'.2, hc ha'.2]
      exact h2 ha'.1
theorem waTo_at (s : DS) (ws : List Int) : ∀ k i, i < s.last.length → (waTo s ws k)[i]? = if (∃ j, j < k ∧ (ws.getD j 0).toNat = i) then some false else (waitF s)[i]?
  | 0, i, hi => by rw [if_neg (by rintro ⟨j, hj, _⟩; omega)]; rfl
  | k + 1, i, hi => by
    have ih := waTo_at s ws k i hi
    by_cases e : (ws.getD k 0).toNat = i
    · rw [if_pos ⟨k, by omega, e⟩, waTo, e, List.getElem?_set_self (by rw [waTo_len]; exact hi)]
    · rw [waTo, List.getElem?_set_ne e, ih]
      by_cases ha : ∃ j, j < k ∧ (ws.getD j 0).toNat = i
      · obtain ⟨j, hj, ej⟩ := ha
        rw [if_pos ⟨j, hj, ej⟩, if_pos ⟨j, by omega, ej⟩]
      · rw [if_neg ha, if_neg]
        rintro ⟨j, hj, ej⟩
        by_cases h : j = k
        · subst h; exact e ej
        · exact ha ⟨j, by omega, ej⟩
theorem among_waits {s : DS} (h : DsOk s) {i : Nat} : among (waitL s) (waitL s).length i ↔ (i : Int) ∈ mkeys s.cache := by
  rw [← waitL_mem]
  unfold among
  constructor
  · rintro ⟨j, hj, e⟩
    have hm : (waitL s).getD j 0 ∈ waitL s := by rw [List.getD_eq_getElem?_getD, List.getElem?_eq_getElem hj]; exact List.getElem_mem _
    have := (h.keys _ (waitL_mem.1 hm)).1
    have e2 : (waitL s).getD j 0 = (i : Int) := by omega
    rw [← e2]; exact hm
  · intro hm
    obtain ⟨j, hj, e⟩ := List.getElem_of_mem hm
    refine ⟨j, hj, ?_⟩
    rw [List.getD_eq_getElem?_getD, List.getElem?_eq_getElem hj, e]; rfl
theorem shTo_end {s : DS} (h : DsOk s) (kept : List Bool) : shTo s (waitL s) kept (waitL s).length = crashTo s.last s.cache (waitL s) kept (waitL s).length := by
  apply List.ext_getElem?
  intro i
  by_cases hi : i < s.last.length
  · obtain ⟨h1, h2⟩ := shTo_at s (waitL s) kept (waitL s).length i hi
    by_cases ha : among (waitL s) (waitL s).length i
    · exact h1 ha
    · obtain ⟨e1, e2⟩ := h2 ha
      rw [e1, e2]
      have hn : mget s.cache (i : Int) = none := by
        cases hg : mget s.cache (i : Int) with
        | none => rfl
        | some v => exact absurd ((among_waits h).2 (mget_some.1 (by rw [hg]; rfl))) ha
      unfold shownL
      rw [laidK_at hi, if_neg (by simp), hn, getD_lt hi]; rfl
  · rw [List.getElem?_eq_none (by rw [shTo_len]; omega), List.getElem?_eq_none (by rw [crashTo_len]; omega)]
theorem waTo_end {s : DS} (h : DsOk s) : waTo s (waitL s) (waitL s).length = List.replicate s.last.length false := by
  apply List.ext_getElem?
  intro i
  by_cases hi : i < s.last.length
  · rw [waTo_at _ _ _ _ hi, List.getElem?_replicate, if_pos hi]
    split
    · rfl
    · rename_i ha
      have hn : (i : Int) ∉ mkeys s.cache := fun hm => ha ((among_waits h).2 hm)
      unfold waitF; simp [hi, hn]
  · rw [List.getElem?_eq_none (by rw [waTo_len]; omega), List.getElem?_eq_none (by simp; omega)]
theorem not_among {ws : List Int} (hn : ws.Nodup) (h0 : ∀ x ∈ ws, 0 ≤ x) {k : Nat} (hk : k < ws.length) : ¬ among ws k (ws.getD k 0).toNat := by
  rintro ⟨j, hj, e⟩
  rw [List.getD_eq_getElem?_getD, List.getElem?_eq_getElem (show j < ws.length by omega), List.getD_eq_getElem?_getD, List.getElem?_eq_getElem hk] at e
  simp only [Option.getD_some] at e
  have p1 := h0 _ (List.getElem_mem (show j < ws.length by omega))
  have p2 := h0 _ (List.getElem_mem hk)
  have e2 : ws[j]'(by omega) = ws[k] := by omega
  exact (List.pairwise_iff_getElem.1 hn) j k (by omega) hk hj e2
set_option maxRecDepth 100000 in
set_option maxHeartbeats 4000000 in
theorem rcrash_any (h sh la wa B : Nat) (s : DS) (A : Option Addr) (n c : Nat) (kept : List Bool) (w : World) (r : RefAt w h sh la wa s) (hk : RdB w B A n c kept) (hB : B ≤ w.heap.size) (hhB : B ≤ h) (hsB : B ≤ sh) (hlB : B ≤ la) (hwB : B ≤ wa) :
    Calls Try.prog 29 #[.pointer (some ⟨h, 0, none⟩), .slice A n c] w fun e w' => e = .returned (.tuple #[]) ∧ RefAt w' h sh la wa (crashed s kept) ∧ Chg [h, sh, la, wa] w w' := by
  obtain ⟨n1, n2, n3, n4, n5, n6⟩ := r.ne
  have HKL := Lib.hid hk.len
  have hnc := hk.2.1
  have hcc := hk.2.2
  have hhw := r.head.lt
  have hsw := r.shown.1.lt
  have hlw := r.last.1.lt
  have hww := r.waits.lt
  go_enter Try.func29, Try.ntmps29
  go_wp2_with (go_at_call 32; refine (list_any _ _ _ _ _ _ r).mono ?_; rintro e w1 ⟨R1, A1, c1, rfl, hO, hB1, hR1⟩)
  have HR := Lib.hid (r.below hB1)
  have hmk : Hid (∀ k ∈ waitL s, 0 ≤ k ∧ k < (s.last.length : Int)) := fun k hk => r.ok.keys k (waitL_mem.1 hk)
  have hlo := r.ok.lo
  have hhi := r.ok.hi
  have HE1 := Lib.hid (shTo_end r.ok kept)
  have HE2 := Lib.hid (waTo_end r.ok)
  have HSV : Hid (∀ x ∈ waitL s, (shownL s)[x.toNat]? = some ((mget s.cache x).getD zB)) := fun x hx => by
    have hm := waitL_mem.1 hx
    obtain ⟨v, hv⟩ := Option.isSome_iff_exists.1 (mget_some.2 hm)
    have hkx := r.ok.keys x hm
    have e : ((x.toNat : Nat) : Int) = x := by omega
    unfold shownL
    rw [laidK_at (by omega), if_neg (by simp), e, hv]; rfl
  have HNA : Hid (∀ k, k < (waitL s).length → ¬ among (waitL s) k ((waitL s).getD k 0).toNat) := fun k hk => not_among ((List.mergeSort_perm _ _).nodup_iff.2 r.ok.nodup) (fun x hx => (hmk.out x hx).1) hk
  have hwb : (waitL s).length ≤ 4096 := by rw [waitL_eq r.ok]; exact Nat.le_trans (listTo_len _ _) hhi
  clear r
  generalize hWS : waitL s = ws at *
  have HWS := Lib.hid hWS
  clear hWS
  generalize hWL : ws.length = wn at *
  have HWL := Lib.hid hWL
  clear hWL
  have J3 : Hid (Chg [h, sh, la, wa] w w1) := Chg.of_below hB1 _
  have hs1 := hB1.size
  clear hB1
  go_loopw [4, 5, 9] (fun i4 i5 i wr => ∃ k : Nat, k ≤ wn ∧ i = .int .i64 k ∧ Blk wr h 51 (refCells s sh la wa) ∧ LastAt wr sh (shTo s ws kept k) ∧ LastAt wr la (crashTo s.last s.cache ws kept k) ∧ Blk wr wa 4 ((waTo s ws k).map Value.bool).toArray ∧ Chg [sh, la, wa] w1 wr) (fun _ _ i _ => wn - (intOf i).toNat)
  case atStart => exact ⟨0, by omega, rfl, HR.out.head, HR.out.shown, HR.out.last, HR.out.waits, Chg.refl _ _⟩
  case round =>
    obtain ⟨k, hkn, rfl, hh, hs, hL, hW, hC⟩ := hrel
    have HH := Lib.hid hh
    have HS := Lib.hid hs
    have HL := Lib.hid hL
    have HW := Lib.hid hW
    have HC := Lib.hid hC
    clear hh hs hL hW hC
    by_cases hlt : k < wn
    · have x0 : wr.cell? ⟨h, 0, none⟩ = some (.slice (some ⟨sh, 0, none⟩) s.last.length s.last.length) := HH.out.cell 0
      have x1 : wr.cell? ⟨h, 1, none⟩ = some (.slice (some ⟨la, 0, none⟩) s.last.length s.last.length) := HH.out.cell 1
      obtain ⟨g, x, hRg, rfl, hgl, hx, hcx, hc1⟩ := (hO.chg HC.out (fun g e => by have := hR1 g e; simp; omega)).at_ hlt
      have HX := Lib.hid hx
      obtain ⟨hx1, hx2⟩ := hmk.out x (List.mem_of_getElem? hx)
      have hsv := HSV.out x (List.mem_of_getElem? hx)
      obtain ⟨kk, rfl⟩ : ∃ kk : Nat, x = kk := ⟨x.toNat, by omega⟩
      have hkl : kk < s.last.length := by omega
      have HGX : Hid (ws.getD k 0 = (kk : Int)) := by show _ = _; rw [List.getD_eq_getElem?_getD, HX.out]; rfl
      rw [Int.toNat_natCast] at hsv
      have hna := HNA.out k hlt
      rw [HGX.out, Int.toNat_natCast] at hna
      have hsk : (shTo s ws kept k)[kk]? = some ((mget s.cache (kk : Int)).getD zB) := by rw [((shTo_at s ws kept k kk hkl).2 hna).1, hsv]
      have HSK := Lib.hid hsk
      have HGB : Hid ((crashTo s.last s.cache ws kept (k + 1))[kk]? = some ((crashTo s.last s.cache ws kept (k + 1)).getD kk [])) := getD_lt (by rw [crashTo_len]; exact hkl)
      have HCW := Lib.hid (J3.out.trans (HC.out.more (by simp)))
      have hkq := hk.below (HCW.out.below hB (by simp; omega))
      have hC1 : kept.getD k false = false → crashTo s.last s.cache ws kept (k + 1) = crashTo s.last s.cache ws kept k := fun e => by rw [crashTo, e]; rfl
      have HC1 := Lib.hid hC1
      have hC2 : kept.getD k false = true → crashTo s.last s.cache ws kept (k + 1) = (crashTo s.last s.cache ws kept k).set kk ((mget s.cache (kk : Int)).getD zB) := fun e => by rw [crashTo, e, if_pos rfl, HGX.out, Int.toNat_natCast]
      have HC2 := Lib.hid hC2
      generalize (crashTo s.last s.cache ws kept (k + 1)).getD kk [] = bb at HGB
      have hvo := HS.out.2 _ (List.mem_of_getElem? hsk)
      have HRV := Lib.hid (HS.out.range hsk)
      generalize (mget s.cache (kk : Int)).getD zB = v at HSK HC2 hvo HRV
      clear hx hk hsv hna hsk hC1 hC2
      by_cases hkn2 : k < n
      · obtain ⟨ad2, kb, rfl, hbl2, hx2', hck⟩ := hkq.at_ hkn2
        have HKB : Hid (kept.getD k false = kb) := by show _ = _; rw [List.getD_eq_getElem?_getD, hx2']; rfl
        clear hx2'
        cases kb
        · have HL2 : Hid (LastAt wr la (crashTo s.last s.cache ws kept (k + 1))) := by show LastAt _ _ _; rw [HC1.out HKB.out]; exact HL.out
          have hbo := HL2.out.2 _ (List.mem_of_getElem? HGB.out)
          have HS2 := HS
          have HH2 := HH
          have HW2 := HW
          have HC2 := HC
          go_wp2_with fail
          go_still_tail 13, (by kernel_rfl)
          repeat still_step
          refine wpStill_loadMid rfl (.tmp 47) rfl la (kk * 512) bb (by simp [Act.eval]) (HL2.out.range HGB.out) hbo ?_
          repeat still_step
          refine wpStill_nil ?_
          change wpList _ _ _ _ _ (World.drew _)
          have hS5 : LastAt (World.drew wr) sh (shTo s ws kept k) := HS2.out
          go_wp2_with (first
            | ((with_reducible refine wpList_storeAt (o := ⟨none, .store _ _ _, _, _, _, _⟩) ?_ (.tmp 49) (.tmp 48) ?_ sh kk (shTo s ws kept k) bb ?_ ?_ hS5 ?_ hbo ?_); rfl; rfl; simp [Act.eval]; rfl; rw [shTo_len]; exact hkl; intro w5 p1 p2 p3; have H5 := p2.blk (w := World.drew wr) HH2.out (by simp; omega); have y2 : w5.cell? ⟨h, 2, none⟩ = some (.slice (some ⟨wa, 0, none⟩) s.last.length s.last.length) := H5.cell 2; have W5 := p2.blk (w := World.drew wr) HW2.out (by simp; omega); have y3 : ∃ b, w5.cell? ⟨wa, kk, none⟩ = some (.bool b) := ⟨_, by { rw [W5.cell, List.getElem?_toArray, List.getElem?_map, List.getElem?_eq_getElem (by rw [waTo_len]; exact hkl)]; rfl }⟩; obtain ⟨yb, y3⟩ := y3; have y4 := W5.frozen kk; have HP1 := Lib.hid p1; have HP2 := Lib.hid p2; have HW5 := Lib.hid W5; have HH5 := Lib.hid H5; clear p1 p2 W5 H5))
          have C6 : Chg [wa] w5 (w5.setCell ⟨wa, kk, none⟩ (.bool false)) := (Chg.refl [wa] w5).setCell (p := ⟨wa, kk, none⟩) (by simp) _
          go_roundw
          case rel =>
            refine ⟨k + 1, by omega, by go_num, C6.blk HH5.out (by simp; omega), ?_, C6.last (HP2.out.last (w := World.drew wr) HL2.out (by simp; omega)) (by simp; omega), ?_, (HC2.out.drew.trans (HP2.out.more (by simp))).trans (C6.more (by simp))⟩
            · have := C6.last HP1.out (by simp; omega)
              rw [shTo, HGX.out, Int.toNat_natCast, List.getD_eq_getElem?_getD, HGB.out]; exact this
            · have h6 := HW5.out.set_ kk (.bool false)
              rw [waTo, HGX.out, Int.toNat_natCast, List.map_set]
              simpa using h6
          case measure => simp [intOf]; omega
        · go_wp2_with fail
          go_still_tail 13, (by kernel_rfl)
          repeat still_step
          refine wpStill_loadMid rfl (.tmp 34) rfl sh (kk * 512) v (by simp [Act.eval]) HRV.out hvo ?_
          repeat still_step
          refine wpStill_nil ?_
          change wpList _ _ _ _ _ wr.drew
          have hL5 : LastAt wr.drew la (crashTo s.last s.cache ws kept k) := HL.out
          go_wp2_with (first
            | ((with_reducible refine wpList_storeAt (o := ⟨none, .store _ _ _, _, _, _, _⟩) ?_ (.tmp 36) (.tmp 35) ?_ la kk (crashTo s.last s.cache ws kept k) v ?_ ?_ hL5 ?_ hvo ?_); rfl; rfl; simp [Act.eval]; rfl; rw [crashTo_len]; exact hkl; intro w4 q1 q2 q3; have HH2 := Lib.hid (q2.blk (w := wr.drew) HH.out (by simp; omega)); have z0 : w4.cell? ⟨h, 0, none⟩ = some (.slice (some ⟨sh, 0, none⟩) s.last.length s.last.length) := HH2.out.cell 0; have z1 : w4.cell? ⟨h, 1, none⟩ = some (.slice (some ⟨la, 0, none⟩) s.last.length s.last.length) := HH2.out.cell 1))
          have HL2 : Hid (LastAt w4 la (crashTo s.last s.cache ws kept (k + 1))) := by show LastAt _ _ _; rw [HC2.out HKB.out]; exact q1
          have hbo := HL2.out.2 _ (List.mem_of_getElem? HGB.out)
          have HS2 := Lib.hid (q2.last (w := wr.drew) HS.out (by simp; omega))
          have HW2 := Lib.hid (q2.blk (w := wr.drew) HW.out (by simp; omega))
          have HC2 : Hid (Chg [sh, la, wa] w1 w4) := HC.out.drew.trans (q2.more (by simp))
          clear q1 q2 q3
          go_still_tail 13, (by kernel_rfl)
          repeat still_step
          refine wpStill_loadMid rfl (.tmp 47) rfl la (kk * 512) bb (by simp [Act.eval]) (HL2.out.range HGB.out) hbo ?_
          repeat still_step
          refine wpStill_nil ?_
          change wpList _ _ _ _ _ (World.drew _)
          have hS5 : LastAt (World.drew w4) sh (shTo s ws kept k) := HS2.out
          go_wp2_with (first
            | ((with_reducible refine wpList_storeAt (o := ⟨none, .store _ _ _, _, _, _, _⟩) ?_ (.tmp 49) (.tmp 48) ?_ sh kk (shTo s ws kept k) bb ?_ ?_ hS5 ?_ hbo ?_); rfl; rfl; simp [Act.eval]; rfl; rw [shTo_len]; exact hkl; intro w5 p1 p2 p3; have H5 := p2.blk (w := World.drew w4) HH2.out (by simp; omega); have y2 : w5.cell? ⟨h, 2, none⟩ = some (.slice (some ⟨wa, 0, none⟩) s.last.length s.last.length) := H5.cell 2; have W5 := p2.blk (w := World.drew w4) HW2.out (by simp; omega); have y3 : ∃ b, w5.cell? ⟨wa, kk, none⟩ = some (.bool b) := ⟨_, by { rw [W5.cell, List.getElem?_toArray, List.getElem?_map, List.getElem?_eq_getElem (by rw [waTo_len]; exact hkl)]; rfl }⟩; obtain ⟨yb, y3⟩ := y3; have y4 := W5.frozen kk; have HP1 := Lib.hid p1; have HP2 := Lib.hid p2; have HW5 := Lib.hid W5; have HH5 := Lib.hid H5; clear p1 p2 W5 H5))
          have C6 : Chg [wa] w5 (w5.setCell ⟨wa, kk, none⟩ (.bool false)) := (Chg.refl [wa] w5).setCell (p := ⟨wa, kk, none⟩) (by simp) _
          go_roundw
          case rel =>
            refine ⟨k + 1, by omega, by go_num, C6.blk HH5.out (by simp; omega), ?_, C6.last (HP2.out.last (w := World.drew w4) HL2.out (by simp; omega)) (by simp; omega), ?_, (HC2.out.drew.trans (HP2.out.more (by simp))).trans (C6.more (by simp))⟩
            · have := C6.last HP1.out (by simp; omega)
              rw [shTo, HGX.out, Int.toNat_natCast, List.getD_eq_getElem?_getD, HGB.out]; exact this
            · have h6 := HW5.out.set_ kk (.bool false)
              rw [waTo, HGX.out, Int.toNat_natCast, List.map_set]
              simpa using h6
          case measure => simp [intOf]; omega
      · have HKB : Hid (kept.getD k false = false) := by show _ = _; rw [List.getD_eq_getElem?_getD, List.getElem?_eq_none (by have := HKL.out; omega)]; rfl
        have hkd : decide (k < n) = false := by simpa using hkn2
        have HL2 : Hid (LastAt wr la (crashTo s.last s.cache ws kept (k + 1))) := by show LastAt _ _ _; rw [HC1.out HKB.out]; exact HL.out
        have hbo := HL2.out.2 _ (List.mem_of_getElem? HGB.out)
        have HS2 := HS
        have HH2 := HH
        have HW2 := HW
        have HC2 := HC
        go_wp2_with fail
        go_still_tail 13, (by kernel_rfl)
        repeat still_step
        refine wpStill_loadMid rfl (.tmp 47) rfl la (kk * 512) bb (by simp [Act.eval]) (HL2.out.range HGB.out) hbo ?_
        repeat still_step
        refine wpStill_nil ?_
        change wpList _ _ _ _ _ (World.drew _)
        have hS5 : LastAt (World.drew wr) sh (shTo s ws kept k) := HS2.out
        go_wp2_with (first
          | ((with_reducible refine wpList_storeAt (o := ⟨none, .store _ _ _, _, _, _, _⟩) ?_ (.tmp 49) (.tmp 48) ?_ sh kk (shTo s ws kept k) bb ?_ ?_ hS5 ?_ hbo ?_); rfl; rfl; simp [Act.eval]; rfl; rw [shTo_len]; exact hkl; intro w5 p1 p2 p3; have H5 := p2.blk (w := World.drew wr) HH2.out (by simp; omega); have y2 : w5.cell? ⟨h, 2, none⟩ = some (.slice (some ⟨wa, 0, none⟩) s.last.length s.last.length) := H5.cell 2; have W5 := p2.blk (w := World.drew wr) HW2.out (by simp; omega); have y3 : ∃ b, w5.cell? ⟨wa, kk, none⟩ = some (.bool b) := ⟨_, by { rw [W5.cell, List.getElem?_toArray, List.getElem?_map, List.getElem?_eq_getElem (by rw [waTo_len]; exact hkl)]; rfl }⟩; obtain ⟨yb, y3⟩ := y3; have y4 := W5.frozen kk; have HP1 := Lib.hid p1; have HP2 := Lib.hid p2; have HW5 := Lib.hid W5; have HH5 := Lib.hid H5; clear p1 p2 W5 H5))
        have C6 : Chg [wa] w5 (w5.setCell ⟨wa, kk, none⟩ (.bool false)) := (Chg.refl [wa] w5).setCell (p := ⟨wa, kk, none⟩) (by simp) _
        go_roundw
        case rel =>
          refine ⟨k + 1, by omega, by go_num, C6.blk HH5.out (by simp; omega), ?_, C6.last (HP2.out.last (w := World.drew wr) HL2.out (by simp; omega)) (by simp; omega), ?_, (HC2.out.drew.trans (HP2.out.more (by simp))).trans (C6.more (by simp))⟩
          · have := C6.last HP1.out (by simp; omega)
            rw [shTo, HGX.out, Int.toNat_natCast, List.getD_eq_getElem?_getD, HGB.out]; exact this
          · have h6 := HW5.out.set_ kk (.bool false)
            rw [waTo, HGX.out, Int.toNat_natCast, List.map_set]
            simpa using h6
        case measure => simp [intOf]; omega
    · obtain rfl : k = wn := by omega
      have f4 := HH.out.frozen 4
      have f5 := HH.out.frozen 5
      have y4 : wr.cell? ⟨h, 4, none⟩ = some (.int .i64 s.fuse) := HH.out.cell 4
      have y5 : wr.cell? ⟨h, 5, none⟩ = some (.bool s.down) := HH.out.cell 5
      have hok := Lib.hid (crashed_ok HR.out.ok kept)
      go_wp2_with fail
      go_end0
      have e1 : refCells (crashed s kept) sh la wa = ((refCells s sh la wa).setIfInBounds 5 (.bool false)).setIfInBounds 4 (.int .i64 (-1)) := by
        unfold crashed refCells; simp [crashTo_len]
      have e2 : (crashed s kept).last = crashTo s.last s.cache ws kept k := by unfold crashed; simp only [HWS.out, HWL.out]
      have e3 : (crashed s kept).last.length = s.last.length := by rw [e2, crashTo_len]
      have C8 : Chg [h] wr ((wr.setCell ⟨h, 5, none⟩ (.bool false)).setCell ⟨h, 4, none⟩ (.int .i64 (-1))) := ((Chg.refl [h] wr).setCell (p := ⟨h, 5, none⟩) (by simp) _).setCell (p := ⟨h, 4, none⟩) (by simp) _
      refine ⟨rfl, ⟨by rw [e1]; exact (HH.out.set_ 5 _).set_ 4 _, ?_, ?_, ?_, n4, hok.out⟩, (J3.out.trans (HC.out.more (by simp))).trans (C8.more (by simp))⟩
      · rw [shown_none (L := crashTo s.last s.cache ws kept k) rfl e2, ← HE1.out]; exact C8.last HS.out (by simp; omega)
      · rw [e2]; exact C8.last HL.out (by simp; omega)
      · rw [wait_none rfl, e3, ← HE2.out]; exact C8.blk HW.out (by simp; omega)
end Go.Proofs.Ytnbaamjdlgojaaa
