/- Parts of the proof: BkY. -/
import Derived.Test.YtklmckbpbloonaaBC48
namespace Go.Proofs.Ytklmckbpbloonaa
open Go.RowKit

/-- Heads of rows of the call's own. -/
def RowsL (w : World) (hs : List Hdr) (bs : List (List Edg)) : Prop := hs.length = bs.length ∧ ∀ (j : Nat) (h : Hdr) (b : List Edg), hs[j]? = some h → bs[j]? = some b → ∃ q, OwnE w q h.1 h.2.1 h.2.2 b
section
variable {w w' : World} {hs : List Hdr} {bs : List (List Edg)}
theorem RowsL.on (h : RowsL w hs bs) (hb : Below w.heap.size w w') : RowsL w' hs bs := ⟨h.1, fun j hd b h1 h2 => by
  obtain ⟨q, ho⟩ := h.2 j hd b h1 h2
  exact ⟨q, ho.below hb ho.lt⟩⟩
theorem RowsL.drewN (h : RowsL w hs bs) (q : Nat) : RowsL (w.drewN q) hs bs := h
theorem RowsL.kept (h : RowsL w hs bs) {r : Option Nat} (hg : w.grownBy w' r) (hne : ∀ g cur, r = some g → w.heap[g]? ≠ some (.cells cur 39 (0, 0))) : RowsL w' hs bs := ⟨h.1, fun j hd b h1 h2 => by
  obtain ⟨q, ho⟩ := h.2 j hd b h1 h2
  refine ⟨q, ho.kept hg ?_⟩
  cases q with
  | none => exact .inl rfl
  | some g =>
    right; intro e
    obtain ⟨cur, hh⟩ := ho.1.1.block rfl
    exact hne g cur e.symm hh⟩
theorem RowsL.add (h : RowsL w hs bs) {hd : Hdr} {b : List Edg} {q : Option Nat} (ho : OwnE w q hd.1 hd.2.1 hd.2.2 b) : RowsL w (hs ++ [hd]) (bs ++ [b]) := by
  refine ⟨by simp [h.1], fun j hd' b' h1 h2 => ?_⟩
  by_cases hj : j < hs.length
  · rw [List.getElem?_append_left hj] at h1
    rw [List.getElem?_append_left (by rw [← h.1]; exact hj)] at h2
    exact h.2 j hd' b' h1 h2
  · rw [List.getElem?_append_right (by omega)] at h1
    rw [List.getElem?_append_right (by rw [← h.1]; omega)] at h2
    have hj2 : j - hs.length = 0 := by
      have := (List.getElem?_eq_some_iff.1 h1).1
      simp at this; omega
    rw [hj2] at h1
    rw [← h.1, hj2] at h2
    simp at h1 h2
    subst h1; subst h2
    exact ⟨q, ho⟩
theorem RowsL.rdEE {r : Option Nat} {A : Option Addr} {n c : Nat} (h : RowsL w hs bs) (ho : OwnH w r A n c hs) : RdEE w w.heap.size A n c bs :=
  ⟨hs, ho.1.reads, ho.1.1, ho.1.2.1, fun hA => ho.1.cap0 (ho.2 hA), h.1, fun j hd b h1 h2 => by
    obtain ⟨q, hq⟩ := h.2 j hd b h1 h2
    exact hq.rd⟩
end
def blsTo (vs : List Int) (es : List Edg) (k : Nat) : List (List Edg) := (((ids es).take k).filter fun r => clsL vs es r == r).map (blockL vs es)
theorem blsTo_succ {vs : List Int} {es : List Edg} {k : Nat} {x : Edg} (h : es[k]? = some x) : blsTo vs es (k + 1) = blsTo vs es k ++ if clsL vs es x.1 = x.1 then [blockL vs es x.1] else [] := by
  unfold blsTo
  have h2 : (ids es)[k]? = some x.1 := by unfold ids; rw [List.getElem?_map, h]; rfl
  rw [take_at h2, List.filter_append, List.map_append]
  congr 1
  by_cases e : clsL vs es x.1 = x.1
  · rw [if_pos e]; simp [e]
  · rw [if_neg e]; simp [e]
theorem blsTo_all (vs : List Int) (es : List Edg) {n : Nat} (hn : (ids es).length = n) : blsTo vs es n = blocksL vs es := by
  subst hn; unfold blsTo blocksL rootsL; rw [List.take_length]
theorem blsTo_len (vs : List Int) (es : List Edg) (k : Nat) : (blsTo vs es k).length ≤ k := by
  unfold blsTo
  rw [List.length_map]
  exact Nat.le_trans (List.length_filter_le _ _) (List.length_take_le _ _)
set_option maxRecDepth 100000 in
set_option maxHeartbeats 8000000 in
theorem rblocks_any (B : Nat) (A A' : Option Addr) (n c n' c' : Nat) (vs : List Int) (es : List Edg) (w : World) (h : RdU w B A n c vs) (h' : RdE w B A' n' c' es) (hB : B ≤ w.heap.size) (hf : Fit vs es) :
    Calls Try.prog 41 #[.agg #[.slice A n c, .slice A' n' c']] w fun e w' => ∃ A2 c2, e = .returned (.slice A2 (blocksL vs es).length c2) ∧ RdEE w' w'.heap.size A2 (blocksL vs es).length c2 (blocksL vs es) ∧ Below w.heap.size w w' := by
  have HL' := Lib.hid h'.len
  have hn160 : n' ≤ 160 := by have := hf.ne; have := h'.len; omega
  have HF := Lib.hid hf
  have HIDL : Hid ((ids es).length = n') := by show _ = _; unfold ids; rw [List.length_map]; exact h'.len
  have HB0 := Lib.hid ((Below.refl w.heap.size w).alloc (Nat.le_refl _) (.cells #[.slice A n c, .slice A' n' c'] 25))
  have HG0 := Lib.hid (Blk.new w 25 #[.slice A n c, .slice A' n' c'])
  clear hf
  go_enter Try.func41, Try.ntmps41
  go_wp2_with fail
  go_loopw [3, 10] (fun s3 i wr => ∃ (k : Nat) (r : Option Nat) (A2 : Option Addr) (c2 : Nat) (hs : List Hdr), k ≤ n' ∧ i = .int .i64 k ∧ s3 = .slice A2 hs.length c2 ∧ OwnH wr r A2 hs.length c2 hs ∧ (∀ g, r = some g → w.heap.size < g) ∧ RowsL wr hs (blsTo vs es k) ∧ Below w.heap.size w wr ∧ Blk wr w.heap.size 25 #[.slice A n c, .slice A' n' c']) (fun _ i _ => n' - (intOf i).toNat)
  case atStart => exact ⟨0, none, none, 0, [], by omega, rfl, rfl, OwnH.nil_ _ _, by simp, ⟨by simp [blsTo], fun j hd b h1 => by simp at h1⟩, HB0.out, HG0.out⟩
  case round =>
    clear HB0 HG0
    obtain ⟨k, r, A2, c2, hs, hk, rfl, rfl, hO, hr, hR, hb, hG⟩ := hrel
    have hhl : hs.length ≤ 160 := by rw [hR.1]; have := blsTo_len vs es k; omega
    by_cases hlt : k < n'
    · obtain ⟨ad, x, rfl, hbl, hx, hxb, hc1, hc2, hc3⟩ := (h'.below (hb.mono hB)).at_ hlt
      have hxm := List.mem_of_getElem? hx
      have HXM := Lib.hid hxm
      have HTS : Hid (blsTo vs es (k + 1) = blsTo vs es k ++ if clsL vs es x.1 = x.1 then [blockL vs es x.1] else []) := blsTo_succ hx
      have hb1 := (Below.refl wr.heap.size wr).alloc (Nat.le_refl _) (.cells #[.int .u32 x.1, .int .u32 x.2.1, .int .u32 x.2.2] 39)
      have HO := Lib.hid (hO.on hb1)
      have HR := Lib.hid (hR.on hb1)
      have HB := Lib.hid (hb.alloc hb.size (.cells #[.int .u32 x.1, .int .u32 x.2.1, .int .u32 x.2.2] 39))
      have HG := Lib.hid (hG.alloc (.cells #[.int .u32 x.1, .int .u32 x.2.1, .int .u32 x.2.2] 39))
      have HZ := Lib.hid (Blk.new wr 39 #[.int .u32 x.1, .int .u32 x.2.1, .int .u32 x.2.2])
      obtain ⟨g0, g1⟩ := hG.c2
      have hgl := hG.lt
      have hbs := hb.size
      clear hx hxm hO hR hb hG hb1
      go_wp2_with fail
      rw [edV_lit]
      refine (rblock_any B _ _ _ _ _ _ vs es x _ (h.below (HB.out.mono hB)) (h'.below (HB.out.mono hB)) (by have := HB.out.size; omega) HF.out HXM.out).mono ?_
      rintro e w2 ⟨r2, A3, c3, rfl, m1, m2, m3⟩
      have hroot := cls_root (vs := vs) (es := es) (List.mem_map.2 ⟨x, HXM.out, rfl⟩ : x.1 ∈ ids es)
      have hhead := block_head HF.out.eup hroot
      obtain ⟨bl, hbl2⟩ : ∃ bl, blockL vs es (clsL vs es x.1) = bl := ⟨_, rfl⟩
      have HBL := Lib.hid hbl2
      rw [hbl2] at m1 hhead
      rw [hbl2]
      rw [List.getElem?_map] at hhead
      obtain ⟨z, hz, hzr⟩ := Option.map_eq_some_iff.1 hhead
      have hpos : 0 < bl.length := (List.getElem?_eq_some_iff.1 hz).1
      obtain ⟨g2, rfl, rfl⟩ := m1.some_ hpos
      obtain ⟨ad2, z2, e1, _, hz2, _, hcz, _, _⟩ := m1.rd.at_ hpos
      injection e1 with e1
      subst e1
      rw [hz] at hz2
      injection hz2 with hz2
      subst hz2
      rw [hzr] at hcz
      have hcz' : w2.cell? ⟨g2, 0, none⟩ = some (.int .u32 (clsL vs es x.1)) := by simpa [Addr.add] using hcz
      have hpos' : (0 : Int) < bl.length := by omega
      have HO2 := Lib.hid (HO.out.on m2)
      have HR2 := Lib.hid (HR.out.on m2)
      have HB2 := Lib.hid (HB.out.trans (m2.mono HB.out.size))
      have HG2 := Lib.hid (HG.out.below m2 HG.out.lt)
      have hZ2 := HZ.out.below m2 HZ.out.lt
      obtain ⟨z0, z1, z3⟩ := hZ2.c3
      have hzl := hZ2.lt
      have HM := Lib.hid m1
      have hz22 := m2.size
      simp only [World.size_alloc] at hz22
      have hbl160 : bl.length ≤ 160 := by rw [← hbl2]; exact Nat.le_trans (List.length_filter_le _ _) HF.out.ne
      clear hcz hhead hz hzr hroot hbl2 m1 m2 m3 HO HR HB HG HZ hZ2
      by_cases he : clsL vs es x.1 = x.1
      · have he' : (clsL vs es x.1 == x.1) = true := by simp [he]
        have HE := Lib.hid he
        clear he
        go_wp2_with fail
        go_quiet (fail)
        go_wp2_with (first
          | (at_builtin; refine appH1 rfl (.tmp 24) (.tmp 26) rfl _ r A2 _ c2 hs rfl ((show OwnH (w2.drewN _) r A2 hs.length c2 hs from HO2.out).alloc (.cells #[.slice (some ⟨g2, 0, none⟩) bl.length c3] 23)) w2.heap.size (some ⟨g2, 0, none⟩, bl.length, c3) rfl (Blk.new (w2.drewN _) 23 #[.slice (some ⟨g2, 0, none⟩) bl.length c3]) (by omega) ?_; intro r5 A5 c5 w5 q1 q2 q3))
        go_roundw
        case rel =>
          have hb1 : Below w2.heap.size w2 ((w2.drewN nq).alloc (.cells #[.slice (some ⟨g2, 0, none⟩) bl.length c3] 23)) := (below_drewN (Below.refl w2.heap.size w2) nq).alloc (Nat.le_refl _) _
          have hO1 := HO2.out.on hb1
          have hne : ∀ g cur, r = some g → ((w2.drewN nq).alloc (.cells #[.slice (some ⟨g2, 0, none⟩) bl.length c3] 23)).heap[g]? ≠ some (.cells cur 39 (0, 0)) := fun g cur e hh => by
            subst e
            obtain ⟨cur2, h2⟩ := hO1.1.block rfl
            rw [hh] at h2
            injection h2 with h2
            injection h2 with _ h2
            revert h2; decide
          have hM1 := HM.out.below hb1 HM.out.lt
          have hM5 := hM1.kept q2 (by
            right; intro e
            obtain ⟨cur, hh⟩ := hM1.1.1.block rfl
            exact hne g2 cur e.symm hh)
          have hR5 := ((HR2.out.on hb1).kept q2 hne).add (hd := (some ⟨g2, 0, none⟩, bl.length, c3)) hM5
          have hr5 : ∀ g, r5 = some g → w.heap.size < g := since_of (B := w.heap.size + 1) (w := (w2.drewN nq).alloc (.cells #[.slice (some ⟨g2, 0, none⟩) bl.length c3] 23)) (w' := w5) (by have := HG2.out.lt; simp; omega) hr q3
          have e1 : hs.length + 1 = (hs ++ [((some ⟨g2, 0, none⟩, bl.length, c3) : Hdr)]).length := by simp
          have hB5 := (HB2.out.trans (hb1.mono HB2.out.size)).grown q2 (by have := HB2.out.size; simp; omega) (fun g e => by have := hr g e; omega)
          refine ⟨k + 1, r5, A5, c5, hs ++ [((some ⟨g2, 0, none⟩, bl.length, c3) : Hdr)], by omega, by go_num, by rw [← e1], by rw [← e1]; exact q1, hr5, ?_, hB5, (HG2.out.below hb1 HG2.out.lt).grown q2 (fun e => by have := hr _ e.symm; omega)⟩
          rw [HTS.out, if_pos HE.out]
          have hbe : blockL vs es x.1 = bl := by rw [← HBL.out, HE.out]
          rw [hbe]
          exact hR5
        case measure => simp [intOf]; omega
      · have he' : (clsL vs es x.1 == x.1) = false := by simp [he]
        have HE := Lib.hid he
        clear he
        go_wp2_with fail
        go_quiet (fail)
        go_wp2_with fail
        go_roundw
        case rel => exact ⟨k + 1, r, A2, c2, hs, by omega, by go_num, rfl, HO2.out, hr, by rw [HTS.out, if_neg HE.out, List.append_nil]; exact HR2.out, below_drewN HB2.out _, HG2.out.drewN _⟩
        case measure => simp [intOf]; omega
    · obtain rfl : n' = k := by omega
      have hll : hs.length = (blocksL vs es).length := by rw [hR.1, blsTo_all vs es HIDL.out]
      have hRE := hR.rdEE hO
      rw [blsTo_all vs es HIDL.out, hll] at hRE
      have HRE := Lib.hid hRE
      have HB := Lib.hid hb
      rw [hll]
      clear hRE hb hR hO hG
      go_wp2_with fail
      go_ret
      exact ⟨A2, c2, rfl, HRE.out, HB.out⟩
end Go.Proofs.Ytklmckbpbloonaa
