/- Parts of the proof: GraphP. -/
import Derived.Test.YtklmckbpbloonaaBC22
import Derived.Test.YtklmckbpbloonaaBC4
import Derived.Test.YtklmckbpbloonaaBC23
namespace Go.Proofs.Ytklmckbpbloonaa
open Go.RowKit

theorem zeroBool (W : World) : (zeroValue 4).run Try.prog W = .ok (.bool false) W := by kernel_rfl
theorem zeroU (W : World) : (zeroValue 31).run Try.prog W = .ok (.int .u32 0) W := by kernel_rfl
theorem zeroI (W : World) : (zeroValue 3).run Try.prog W = .ok (.int .i64 0) W := by kernel_rfl

/-- How many numbers a set of reached ones can hold. -/
theorem reach_len {es : List Edg} {v : Int} {ks : List Int} (hn : ks.Nodup) (h : ∀ k ∈ ks, Conn es v k) : ks.length ≤ 2 * es.length + 1 := by
  have hsub : ∀ k ∈ ks, k ∈ v :: es.flatMap fun e => [e.2.1, e.2.2] := by
    intro k hk
    rcases (h k hk).mem with rfl | ⟨e, he, h1⟩
    · exact List.mem_cons_self
    · refine List.mem_cons_of_mem _ (List.mem_flatMap.2 ⟨e, he, ?_⟩)
      rcases h1 with rfl | rfl <;> simp
  have hle : ks.length ≤ (v :: es.flatMap fun e => [e.2.1, e.2.2]).length := List.Nodup.length_le_of_subset hn hsub
  have h2 : (es.flatMap fun e => [e.2.1, e.2.2]).length = 2 * es.length := by
    clear hsub hle h
    induction es with
    | nil => rfl
    | cons e es ih => simp only [List.flatMap_cons, List.length_append, List.length_cons, List.length_nil, ih]; omega
  simp only [List.length_cons] at hle
  omega

theorem hasB_iff {ks : List Int} {x : Int} : hasB ks x = true ↔ x ∈ ks := by simp [hasB]
theorem hasB_not {ks : List Int} {x : Int} : hasB ks x = false ↔ x ∉ ks := by simp [hasB]
/-- What of a list a set has. -/
def inTo (vs ks : List Int) (k : Nat) : List Int := (vs.take k).filter fun x => hasB ks x
theorem inTo_succ {vs ks : List Int} {k : Nat} {x : Int} (h : vs[k]? = some x) : inTo vs ks (k + 1) = inTo vs ks k ++ if hasB ks x then [x] else [] := by
  unfold inTo; rw [take_at h, List.filter_append]; simp only [List.filter_cons, List.filter_nil]
theorem inTo_len (vs ks : List Int) (k : Nat) : (inTo vs ks k).length ≤ k := by
  unfold inTo
  have h1 := List.length_filter_le (fun x => hasB ks x) (vs.take k)
  have h2 := List.length_take_le k vs
  omega
def partLen (vs : List Int) (es : List Edg) (v : Int) : Nat := (partL vs es v).length
theorem inTo_part {vs ks : List Int} {es : List Edg} {v : Int} {n : Nat} (hn : vs.length = n) (hv : v ∈ ks) (hr : ∀ k ∈ ks, Conn es v k) (hc : ∀ e ∈ es, (e.2.1 ∈ ks ↔ e.2.2 ∈ ks)) : inTo vs ks n = partL vs es v := by
  unfold inTo partL
  rw [List.take_of_length_le (by omega)]
  refine List.filter_congr fun x _ => ?_
  rw [Bool.eq_iff_iff, hasB_iff, beq_iff_eq]
  constructor
  · intro h; exact (lab_iff.2 (hr x h)).symm
  · intro h; exact lab_iff.1 h.symm (fun z => z ∈ ks) hv hc

theorem own_map_ne {w : World} {e : TypeId} {size n c : Nat} {r : Option Nat} {A : Option Addr} {xs : List Value} (h : Own w e size r A n c xs) {α : Type} {b : Nat} {q : IntKind} {enc : α → Value} {m : List (Int × α)} (hm : MapOf w b q enc m) : some b ≠ r := by
  intro e
  obtain ⟨cur, hh⟩ := h.block e.symm
  exact hm.ne_cells hh rfl

set_option maxRecDepth 100000 in
set_option maxHeartbeats 2000000 in
theorem rpart_any (B : Nat) (A A' : Option Addr) (n c n' c' : Nat) (vs : List Int) (es : List Edg) (v : Int) (w : World) (h : RdU w B A n c vs) (h' : RdE w B A' n' c' es) (hn : n ≤ 1000000) (hB : B ≤ w.heap.size) :
    Calls Try.prog 58 #[.agg #[.slice A n c, .slice A' n' c'], .int .u32 v] w fun e w' => ∃ r A2 c2, e = .returned (.slice A2 (partLen vs es v) c2) ∧ OwnU w' r A2 (partLen vs es v) c2 (partL vs es v) ∧ Below w.heap.size w w' ∧ (∀ g, r = some g → w.heap.size ≤ g) := by
  have HL := Lib.hid h.len
  have HL' := Lib.hid h'.len
  obtain ⟨hnc, hc⟩ := h.bd
  obtain ⟨hnc', hc'⟩ := h'.bd
  have hmm := @run_makeMap Try.prog
  have hb1 : Below w.heap.size w ((w.alloc (.cells #[.slice A n c, .slice A' n' c'] 25)).alloc (.map #[] 0)) := ((Below.refl _ _).alloc (Nat.le_refl _) _).alloc (by simp) _
  have HB := Lib.hid hb1
  have hG0 := (Blk.new w 25 #[.slice A n c, .slice A' n' c']).alloc (.map #[] 0)
  have hM0 := MapOf.made (w.alloc (.cells #[.slice A n c, .slice A' n' c'] 25)) .u32 Value.bool
  simp only [World.size_alloc] at hM0
  have HG0 := Lib.hid hG0
  have HM0 : Hid (IsSet ((w.alloc (.cells #[.slice A n c, .slice A' n' c'] 25)).alloc (.map #[] 0)) (w.heap.size + 1) .u32 []) := hM0
  clear hb1 hG0 hM0
  go_enter Try.func58, Try.ntmps58
  go_wp2_with (refine wpList_sins rfl (.tmp 12) (.tmp 13) _ _ 31 4 rfl Try.underlying60 Try.underlying31 v HM0.out rfl rfl rfl ?_; intro w1 k1 k2 k3)
  have hb2 := HB.out.grown k2 (by simp; omega) (by intro g hg; cases hg; omega)
  have hg2 := HG0.out.grown k2 (by simp)
  have HB2 := Lib.hid hb2
  have HG2 := Lib.hid hg2
  clear hb2 hg2 k2 k3
  go_loopg [6] (4 * n' + 8) (fun m gr wr => ∃ (ks : List Int) (g : Bool), gr = .bool g ∧ IsSet wr (w.heap.size + 1) .u32 ks ∧ Hid (v ∈ ks ∧ (∀ k ∈ ks, Conn es v k) ∧ 2 * (2 * n' + 1 - ks.length) + (if g then 1 else 0) < m ∧ (g = false → ∀ e ∈ es, (e.2.1 ∈ ks ↔ e.2.2 ∈ ks))) ∧
      Below w.heap.size w wr ∧ Blk wr w.heap.size 25 #[.slice A n c, .slice A' n' c'])
  case atStart =>
    refine ⟨[v], true, rfl, k1, ⟨by simp, fun k hk => ?_, by simp; omega, fun h => by cases h⟩, HB2.out, HG2.out⟩
    simp at hk; subst hk; exact Conn.refl _ _
  case round =>
    obtain ⟨ks, g, rfl, hset, HI, hbr, hG⟩ := hrel
    clear k1
    obtain ⟨hg0, hg1⟩ := hG.c2
    have hsz := hG.lt
    have hszm := MapOf.lt hset
    cases g
    · -- nothing grew: what the set has of the vertices
      have hcl : Hid (inTo vs ks n = partL vs es v) := inTo_part HL.out HI.out.1 HI.out.2.1 (HI.out.2.2.2 rfl)
      clear HI
      go_wp2
      go_loopw [9, 42] (fun o i w2 => ∃ (k : Nat) (r : Option Nat) (A2 : Option Addr) (c2 : Nat), k ≤ n ∧ i = .int .i64 k ∧ o = .slice A2 (inTo vs ks k).length c2 ∧ OwnU w2 r A2 (inTo vs ks k).length c2 (inTo vs ks k) ∧ Below w.heap.size w w2 ∧
          (∀ g, r = some g → w.heap.size ≤ g) ∧ IsSet w2 (w.heap.size + 1) .u32 ks) (fun _ i _ => n - (intOf i).toNat)
      case atStart => exact ⟨0, none, none, 0, by omega, rfl, by simp [inTo], by simpa [inTo] using OwnU.nil_ _ _, hbr, by simp, hset⟩
      case round =>
        obtain ⟨k, r, A2, c2, hk, rfl, rfl, hown, hb2, hrg, hs2⟩ := hrel
        clear hset hsz hszm hG hg0 hg1
        have hq := h.below (hb2.mono hB)
        by_cases hlt : k < n
        · obtain ⟨ad, x, rfl, hbl, hx, hxb, hc1⟩ := hq.at_ hlt
          have HS : Hid (inTo vs ks (k + 1) = inTo vs ks k ++ if hasB ks x then [x] else []) := inTo_succ hx
          have hle := inTo_len vs ks k
          clear hx
          cases hin : hasB ks x
          · have HIN := Lib.hid hin
            clear hin
            have HO := Lib.hid hown
            have HS2 := Lib.hid hs2
            clear hown hs2
            go_wp2_with (refine wpList_slook rfl (.tmp 46) (.tmp 47) _ 31 4 rfl Try.underlying60 Try.underlying31 zeroBool x HS2.out rfl rfl ?_; rw [HIN.out])
            go_roundw
            case rel =>
              have e1 : inTo vs ks (k + 1) = inTo vs ks k := by rw [HS.out, HIN.out]; simp
              exact ⟨k + 1, r, A2, c2, by omega, by go_num, by rw [e1], by rw [e1]; exact HO.out, hb2, hrg, HS2.out⟩
            case measure => simp [intOf]; omega
          · have HIN := Lib.hid hin
            clear hin
            have HO := Lib.hid (hown.alloc (.cells #[.int .u32 x] 31))
            have HS2 := Lib.hid hs2
            have HS3 : Hid (IsSet (wr.alloc (.cells #[.int .u32 x] 31)) (w.heap.size + 1) .u32 ks) := MapOf.alloc hs2 _
            have HBX := Lib.hid (Blk.new wr 31 #[.int .u32 x])
            have HB3 := Lib.hid (hb2.alloc hb2.size (.cells #[.int .u32 x] 31))
            clear hown hs2
            go_wp2_with (first | (refine wpList_slook rfl (.tmp 46) (.tmp 47) _ 31 4 rfl Try.underlying60 Try.underlying31 zeroBool x HS2.out rfl rfl ?_; rw [HIN.out]) | (at_builtin; refine appU1 rfl (.tmp 49) (.tmp 51) rfl _ _ _ _ _ _ rfl HO.out _ _ rfl HBX.out hxb (by omega) ?_; intro r1 A1 c1 w3 m1 m2 m3))
            go_roundw
            case rel =>
              have e1 : inTo vs ks (k + 1) = inTo vs ks k ++ [x] := by rw [HS.out, HIN.out]; simp
              have e2 : (inTo vs ks k ++ [x]).length = (inTo vs ks k).length + 1 := by simp
              refine ⟨k + 1, r1, A1, c1, by omega, by go_num, by rw [e1, e2], by rw [e1, e2]; exact m1, HB3.out.grown m2 (by have := hb2.size; simp; omega) hrg, new_row m3 hrg (by have := hb2.size; simp; omega), MapOf.grown HS3.out m2 (own_map_ne HO.out.1.1 HS3.out)⟩
            case measure => simp [intOf]; omega
        · obtain rfl : k = n := by omega
          rw [hcl.out] at hown
          rw [hcl.out]
          go_wp2
          go_ret
          exact ⟨r, A2, c2, rfl, hown, hb2, hrg⟩
    · -- once more through the edges
      have hi := HI.out
      have HI1 : Hid (2 * (2 * n' + 1 - ks.length) + 1 < gk) := by show _ < _; simpa using hi.2.2.1
      have HR0 : Hid (ks.length ≤ 2 * n' + 1) := by show _ ≤ _; have := reach_len hset.nodup hi.2.1; rw [HL'.out] at this; exact this
      go_wp2
      go_loopw [6, 19] (fun gr i w2 => ∃ (j : Nat) (ks2 : List Int) (g2 : Bool), j ≤ n' ∧ i = .int .i64 j ∧ gr = .bool g2 ∧ IsSet w2 (w.heap.size + 1) .u32 ks2 ∧
          Hid (v ∈ ks2 ∧ (∀ k ∈ ks2, Conn es v k) ∧ (g2 = false → ks2 = ks ∧ ∀ i e, i < j → es[i]? = some e → (e.2.1 ∈ ks ↔ e.2.2 ∈ ks)) ∧ (g2 = true → ks.length < ks2.length)) ∧
          Below w.heap.size w w2 ∧ Blk w2 w.heap.size 25 #[.slice A n c, .slice A' n' c']) (fun _ i _ => n' - (intOf i).toNat)
      case atStart => exact ⟨0, ks, false, by omega, rfl, rfl, hset, ⟨hi.1, hi.2.1, fun _ => ⟨rfl, fun i e hi => absurd hi (by omega)⟩, fun h => by cases h⟩, hbr, hG⟩
      case round =>
        obtain ⟨j, ks2, g2, hj, rfl, rfl, hs2, HJ, hb2, hG2⟩ := hrel
        clear hset hsz hszm hG hg0 hg1 HI
        have hq' := h'.below (hb2.mono hB)
        obtain ⟨hg0, hg1⟩ := hG2.c2
        have hsz := hG2.lt
        have hszm := MapOf.lt hs2
        by_cases hlt : j < n'
        · obtain ⟨ad, x, rfl, hbl, hx, hxb, hc1, hc2, hc3⟩ := hq'.at_ hlt
          have HX := Lib.hid hx
          have hmem := List.mem_of_getElem? hx
          have HC : Hid (Conn es x.2.1 x.2.2) := Conn.edge hmem
          clear hx hmem
          have HBX := Lib.hid (hb2.alloc hb2.size (.cells #[.int .u32 x.1, .int .u32 x.2.1, .int .u32 x.2.2] 39))
          have HGX := Lib.hid (hG2.alloc (.cells #[.int .u32 x.1, .int .u32 x.2.1, .int .u32 x.2.2] 39))
          have HXX := Lib.hid (Blk.new wr 39 #[.int .u32 x.1, .int .u32 x.2.1, .int .u32 x.2.2])
          have HSX : Hid (IsSet (wr.alloc (.cells #[.int .u32 x.1, .int .u32 x.2.1, .int .u32 x.2.2] 39)) (w.heap.size + 1) .u32 ks2) := MapOf.alloc hs2 _
          clear hs2 hb2
          have same : hasB ks2 x.2.1 = hasB ks2 x.2.2 → Hid (v ∈ ks2 ∧ (∀ k ∈ ks2, Conn es v k) ∧ (g2 = false → ks2 = ks ∧ ∀ i e, i < j + 1 → es[i]? = some e → (e.2.1 ∈ ks ↔ e.2.2 ∈ ks)) ∧ (g2 = true → ks.length < ks2.length)) := by
            intro hsame
            refine ⟨HJ.out.1, HJ.out.2.1, fun hg => ⟨(HJ.out.2.2.1 hg).1, fun i e hi he => ?_⟩, HJ.out.2.2.2⟩
            by_cases eij : i = j
            · subst eij
              rw [HX.out] at he; injection he with he; subst he
              rw [← (HJ.out.2.2.1 hg).1, ← hasB_iff, ← hasB_iff, hsame]
            · exact (HJ.out.2.2.1 hg).2 i e (by omega) he
          have HSM := Lib.hid same
          clear same
          cases ha : hasB ks2 x.2.1 <;> cases hb : hasB ks2 x.2.2
          · have HA := Lib.hid ha
            have HBB := Lib.hid hb
            clear ha hb
            go_wp2_with (first | (refine wpList_slook rfl (.tmp 23) (.tmp 25) _ 31 4 rfl Try.underlying60 Try.underlying31 zeroBool x.2.1 HSX.out rfl rfl ?_; rw [HA.out]) | (refine wpList_slook rfl (.tmp 27) (.tmp 29) _ 31 4 rfl Try.underlying60 Try.underlying31 zeroBool x.2.2 HSX.out rfl rfl ?_; rw [HBB.out]))
            go_roundw
            case rel => exact ⟨j + 1, ks2, g2, by omega, by go_num, rfl, HSX.out, HSM.out (by rw [HA.out, HBB.out]), HBX.out, HGX.out⟩
            case measure => simp [intOf]; omega
          · have HA := Lib.hid ha
            have HBB := Lib.hid hb
            clear ha hb
            have hks : Hid (ks.length ≤ ks2.length) := by
              show _ ≤ _
              cases g2
              · rw [(HJ.out.2.2.1 rfl).1]; exact Nat.le_refl _
              · exact Nat.le_of_lt (HJ.out.2.2.2 rfl)
            go_wp2_with (first | (refine wpList_slook rfl (.tmp 23) (.tmp 25) _ 31 4 rfl Try.underlying60 Try.underlying31 zeroBool x.2.1 HSX.out rfl rfl ?_; rw [HA.out]) | (refine wpList_slook rfl (.tmp 27) (.tmp 29) _ 31 4 rfl Try.underlying60 Try.underlying31 zeroBool x.2.2 HSX.out rfl rfl ?_; rw [HBB.out]) | (refine wpList_sput rfl (.tmp 32) (.tmp 34) _ _ 31 4 rfl Try.underlying60 Try.underlying31 x.2.1 HSX.out rfl rfl rfl ?_; intro w3 k1 k2 k3; have hX3 := HXX.out.grown k2 (by simp; omega); obtain ⟨p1, p2, p3⟩ := hX3.c3) | (refine wpList_sput rfl (.tmp 35) (.tmp 37) _ _ 31 4 rfl Try.underlying60 Try.underlying31 x.2.2 k1 rfl rfl rfl ?_; intro w4 m1 m2 m3))
            go_roundw
            case rel =>
              refine ⟨j + 1, addK (addK ks2 x.2.1) x.2.2, true, by omega, by go_num, rfl, m1, ⟨?_, ?_, fun h => (by cases h), fun _ => ?_⟩, (HBX.out.grown k2 (by have := HBX.out.size; omega) (by intro g hg; cases hg; omega)).grown m2 (by have := HBX.out.size; omega) (by intro g hg; cases hg; omega), (HGX.out.grown k2 (by simp)).grown m2 (by simp)⟩
              · exact mem_addK.2 (.inl (mem_addK.2 (.inl HJ.out.1)))
              · intro k hk
                have hbk := HJ.out.2.1 _ (hasB_iff.1 HBB.out)
                rcases mem_addK.1 hk with hk | rfl
                · rcases mem_addK.1 hk with hk | rfl
                  · exact HJ.out.2.1 k hk
                  · exact hbk.trans HC.out.symm
                · exact hbk
              · have h1 := len_addK ks2 x.2.1
                have h2 := len_addK (addK ks2 x.2.1) x.2.2
                have h3 := hks.out
                have h4 := h1.2.2 (hasB_not.1 HA.out); omega
            case measure => simp [intOf]; omega
          · have HA := Lib.hid ha
            have HBB := Lib.hid hb
            clear ha hb
            have hks : Hid (ks.length ≤ ks2.length) := by
              show _ ≤ _
              cases g2
              · rw [(HJ.out.2.2.1 rfl).1]; exact Nat.le_refl _
              · exact Nat.le_of_lt (HJ.out.2.2.2 rfl)
            go_wp2_with (first | (refine wpList_slook rfl (.tmp 23) (.tmp 25) _ 31 4 rfl Try.underlying60 Try.underlying31 zeroBool x.2.1 HSX.out rfl rfl ?_; rw [HA.out]) | (refine wpList_slook rfl (.tmp 27) (.tmp 29) _ 31 4 rfl Try.underlying60 Try.underlying31 zeroBool x.2.2 HSX.out rfl rfl ?_; rw [HBB.out]) | (refine wpList_sput rfl (.tmp 32) (.tmp 34) _ _ 31 4 rfl Try.underlying60 Try.underlying31 x.2.1 HSX.out rfl rfl rfl ?_; intro w3 k1 k2 k3; have hX3 := HXX.out.grown k2 (by simp; omega); obtain ⟨p1, p2, p3⟩ := hX3.c3) | (refine wpList_sput rfl (.tmp 35) (.tmp 37) _ _ 31 4 rfl Try.underlying60 Try.underlying31 x.2.2 k1 rfl rfl rfl ?_; intro w4 m1 m2 m3))
            go_roundw
            case rel =>
              refine ⟨j + 1, addK (addK ks2 x.2.1) x.2.2, true, by omega, by go_num, rfl, m1, ⟨?_, ?_, fun h => (by cases h), fun _ => ?_⟩, (HBX.out.grown k2 (by have := HBX.out.size; omega) (by intro g hg; cases hg; omega)).grown m2 (by have := HBX.out.size; omega) (by intro g hg; cases hg; omega), (HGX.out.grown k2 (by simp)).grown m2 (by simp)⟩
              · exact mem_addK.2 (.inl (mem_addK.2 (.inl HJ.out.1)))
              · intro k hk
                have hak := HJ.out.2.1 _ (hasB_iff.1 HA.out)
                rcases mem_addK.1 hk with hk | rfl
                · rcases mem_addK.1 hk with hk | rfl
                  · exact HJ.out.2.1 k hk
                  · exact hak
                · exact hak.trans HC.out
              · have h1 := len_addK ks2 x.2.1
                have h2 := len_addK (addK ks2 x.2.1) x.2.2
                have h3 := hks.out
                have h4 := h2.2.2 (fun hc => by
                  rcases mem_addK.1 hc with hc | hc
                  · exact hasB_not.1 HBB.out hc
                  · exact hasB_not.1 HBB.out (hc ▸ hasB_iff.1 HA.out))
                omega
            case measure => simp [intOf]; omega
          · have HA := Lib.hid ha
            have HBB := Lib.hid hb
            clear ha hb
            go_wp2_with (first | (refine wpList_slook rfl (.tmp 23) (.tmp 25) _ 31 4 rfl Try.underlying60 Try.underlying31 zeroBool x.2.1 HSX.out rfl rfl ?_; rw [HA.out]) | (refine wpList_slook rfl (.tmp 27) (.tmp 29) _ 31 4 rfl Try.underlying60 Try.underlying31 zeroBool x.2.2 HSX.out rfl rfl ?_; rw [HBB.out]))
            go_roundw
            case rel => exact ⟨j + 1, ks2, g2, by omega, by go_num, rfl, HSX.out, HSM.out (by rw [HA.out, HBB.out]), HBX.out, HGX.out⟩
            case measure => simp [intOf]; omega
        · obtain rfl : j = n' := by omega
          go_wp2
          go_roundg (2 * (2 * j + 1 - ks2.length) + (if g2 then 1 else 0) + 1)
          case measure =>
            have h1 := HI1.out
            have h2 := HR0.out
            cases g2
            · rw [(HJ.out.2.2.1 rfl).1]; simp; omega
            · have h3 := HJ.out.2.2.2 rfl
              have h4 := reach_len hs2.nodup HJ.out.2.1
              have h5 := HL'.out
              simp; omega
          case rel => exact ⟨ks2, g2, rfl, hs2, ⟨HJ.out.1, HJ.out.2.1, by omega, fun hg e he => by
              obtain ⟨i, hi, e1⟩ := List.mem_iff_getElem.1 he
              have := (HJ.out.2.2.1 hg).2 i e (by have := HL'.out; omega) (by rw [List.getElem?_eq_getElem hi, e1])
              rwa [(HJ.out.2.2.1 hg).1]⟩, hb2, hG2⟩

set_option maxRecDepth 100000 in
set_option maxHeartbeats 2000000 in
theorem rparts_any (B : Nat) (A A' : Option Addr) (n c n' c' : Nat) (vs : List Int) (es : List Edg) (w : World) (h : RdU w B A n c vs) (h' : RdE w B A' n' c' es) (hn : n ≤ 1000000) (hB : B ≤ w.heap.size)
    (hs : vs.Pairwise (· < ·)) (hends : ∀ e ∈ es, e.2.1 ∈ vs ∧ e.2.2 ∈ vs) :
    Calls Try.prog 18 #[.agg #[.slice A n c, .slice A' n' c']] w fun e w' => ∃ r A2 c2, e = .returned (.slice A2 (partsTo vs es n).length c2) ∧ OwnUU w' w.heap.size w'.heap.size r A2 (partsTo vs es n).length c2 (partsTo vs es n) ∧ Below w.heap.size w w' := by
  obtain ⟨hnc, hc⟩ := h.bd
  have HB := Lib.hid ((Below.refl w.heap.size w).alloc (Nat.le_refl _) (.cells #[.slice A n c, .slice A' n' c'] 25))
  have hG0 := Blk.new w 25 #[.slice A n c, .slice A' n' c']
  have HE := Lib.hid hends
  have HSO := Lib.hid hs
  clear hends hs
  go_enter Try.func18, Try.ntmps18
  go_wp2
  go_loopw [3, 10] (fun o i wr => ∃ (k : Nat) (r : Option Nat) (A2 : Option Addr) (c2 : Nat), k ≤ n ∧ i = .int .i64 k ∧ o = .slice A2 (partsTo vs es k).length c2 ∧ OwnUU wr w.heap.size wr.heap.size r A2 (partsTo vs es k).length c2 (partsTo vs es k) ∧ Below w.heap.size w wr ∧ Blk wr w.heap.size 25 #[.slice A n c, .slice A' n' c']) (fun _ i _ => n - (intOf i).toNat)
  case atStart => exact ⟨0, none, none, 0, by omega, rfl, by simp [partsTo], by simpa [partsTo] using OwnUU.nil_ _ _ _, HB.out, hG0⟩
  case round =>
    obtain ⟨k, r, A2, c2, hk, rfl, rfl, hown, hbr, hG⟩ := hrel
    clear hG0
    have hq := h.below (hbr.mono hB)
    have hq' := h'.below (hbr.mono hB)
    obtain ⟨hg0, hg1⟩ := hG.c2
    have hsz := hG.lt
    by_cases hlt : k < n
    · obtain ⟨ad, x, rfl, hbl, hx, _, hc1⟩ := hq.at_ hlt
      have hmem := List.mem_of_getElem? hx
      have HS : Hid (partsTo vs es (k + 1) = partsTo vs es k ++ if lab es x = x then [partL vs es x] else []) := partsTo_succ hx
      have hle := partsTo_len vs es k
      have HH : Hid ((partL vs es x)[0]? = some (lab es x)) := part_head HSO.out HE.out hmem
      have HPL : Hid (0 < partLen vs es x) := by
        show 0 < _
        unfold partLen
        rcases Nat.eq_zero_or_pos (partL vs es x).length with h0 | h0
        · have := HH.out; rw [List.getElem?_eq_none (by omega)] at this; cases this
        · exact h0
      have HO := Lib.hid hown
      clear hx hmem hown
      by_cases he : lab es x = x
      · have he' : (lab es x == x) = true := by simp [he]
        have HEQ := Lib.hid he
        clear he
        have hB2 : B ≤ wr.heap.size := by have := hbr.size; omega
        go_wp2_with (first | (go_at_call 58; refine (rpart_any B _ _ _ _ _ _ vs es _ _ hq hq' hn hB2).mono ?_; rintro e w1 ⟨r1, A1, c1, rfl, k1, k2, k3⟩; obtain ⟨ad2, y, rfl, _, hy, _, hcy⟩ := k1.rd.at_ (k := 0) HPL.out; rw [Addr.add_zero'] at hcy; obtain rfl : lab es x = y := (by rw [HH.out] at hy; injection hy); clear hy; have hsz1 := k2.size) | (at_builtin; refine appUU1 rfl (.tmp 22) (.tmp 24) rfl _ w.heap.size wr.heap.size _ _ _ _ _ rfl ((HO.out.below k2 (Nat.le_refl _)).alloc hsz1 _) (by simp; omega) hbr.size w1.heap.size (_, _, _) r1 (partL vs es x) rfl (Blk.new _ _ _) (k1.alloc _) k3 (by omega) ?_; intro r3 A3 c3 w3 m1 m2 m3))
        go_roundw
        case rel =>
          have e1 : partsTo vs es (k + 1) = partsTo vs es k ++ [partL vs es x] := by rw [HS.out, if_pos HEQ.out]
          have e2 : (partsTo vs es k ++ [partL vs es x]).length = (partsTo vs es k).length + 1 := by simp
          obtain ⟨hs', rs', p1, p2, p3, _⟩ := HO.out
          have hbb : Below w.heap.size w (w1.alloc (.cells #[.slice (some ad2) (partLen vs es x) c1] 22)) := (hbr.trans (k2.mono hbr.size)).alloc (by have := hbr.size; omega) _
          refine ⟨k + 1, r3, A3, c3, by omega, by go_num, by rw [e1, e2], by rw [e1, e2]; exact m1, hbb.grown m2 hbb.size (fun g hg => (p3 g hg).1), ((hG.below k2 hsz).alloc _).grown m2 (fun e => ?_)⟩
          have h1 := (p3 _ e.symm).1
          obtain ⟨cur, hh⟩ := p1.block e.symm
          exact absurd rfl (Blk.ne_ (t := 22) (cs := cur) hh hG (by decide))
        case measure => simp [intOf]; omega
      · have he' : (lab es x == x) = false := by simp [he]
        have HEQ := Lib.hid he
        clear he
        have hB2 : B ≤ wr.heap.size := by have := hbr.size; omega
        go_wp2_with (first | (go_at_call 58; refine (rpart_any B _ _ _ _ _ _ vs es _ _ hq hq' hn hB2).mono ?_; rintro e w1 ⟨r1, A1, c1, rfl, k1, k2, k3⟩; obtain ⟨ad2, y, rfl, _, hy, _, hcy⟩ := k1.rd.at_ (k := 0) HPL.out; rw [Addr.add_zero'] at hcy; obtain rfl : lab es x = y := (by rw [HH.out] at hy; injection hy); clear hy))
        go_roundw
        case rel =>
          have e1 : partsTo vs es (k + 1) = partsTo vs es k := by rw [HS.out, if_neg HEQ.out]; simp
          exact ⟨k + 1, r, A2, c2, by omega, by go_num, by rw [e1], by rw [e1]; exact (HO.out.below k2 (Nat.le_refl _)).more k2.size, hbr.trans (k2.mono hbr.size), hG.below k2 hsz⟩
        case measure => simp [intOf]; omega
    · obtain rfl : k = n := by omega
      go_wp2
      go_ret
      exact ⟨r, A2, c2, rfl, hown, hbr⟩
end Go.Proofs.Ytklmckbpbloonaa
