/- Parts of the proof: GraphQ. -/
import Derived.Test.YtklmckbpbloonaaBC24
import Derived.Test.YtklmckbpbloonaaBC5
import Derived.Test.YtklmckbpbloonaaBC23
namespace Go.Proofs.Ytklmckbpbloonaa
open Go.RowKit

def encU32 : Int → Value := Value.int .u32
def encI64 : Int → Value := Value.int .i64
/-- The labels behind the first k edges. -/
def labTo (es : List Edg) (k : Nat) : Int → Int := lab (es.take k)
theorem labTo_succ {es : List Edg} {k : Nat} {e : Edg} (h : es[k]? = some e) : labTo es (k + 1) = lstep (labTo es k) e := labF_take_succ h id
theorem labTo_all (es : List Edg) : labTo es es.length = lab es := by unfold labTo; rw [List.take_length]
/-- In the middle of a round: those that are still to come bear the old label. -/
def midF (f g : Int → Int) (left : List Int) : Int → Int := fun v => if v ∈ left then f v else g v
theorem mid_keep {f g : Int → Int} {left : List Int} {y : Int} (hn : left.Nodup) (h : g y = f y) : midF f g (left.erase y) = midF f g left := by
  funext v
  unfold midF
  by_cases hv : v = y
  · subst hv
    rw [if_neg (by rw [hn.mem_erase_iff]; simp), h]; simp
  · have : v ∈ left.erase y ↔ v ∈ left := by rw [hn.mem_erase_iff]; simp [hv]
    simp only [this]
theorem mid_put {f g : Int → Int} {vs left : List Int} {y : Int} (hn : left.Nodup) (hy : y ∈ vs) : mput (mapF vs (midF f g left)) y (g y) = mapF vs (midF f g (left.erase y)) := by
  rw [mput_mapF _ hy]
  refine mapF_congr fun v _ => ?_
  unfold midF
  by_cases hv : v = y
  · subst hv
    rw [if_pos rfl, if_neg (by rw [hn.mem_erase_iff]; simp)]
  · have : v ∈ left.erase y ↔ v ∈ left := by rw [hn.mem_erase_iff]; simp [hv]
    simp only [this, if_neg hv]
theorem mid_get {f g : Int → Int} {vs left : List Int} {y v : Int} (hy : y ∈ left) (h : mget (mapF vs (midF f g left)) y = some v) : y ∈ vs ∧ v = f y := by
  rw [mget_mapF] at h
  split at h
  · rename_i hm; refine ⟨hm, ?_⟩; injection h with h; rw [← h]; unfold midF; rw [if_pos hy]
  · cases h

set_option maxRecDepth 100000 in
set_option maxHeartbeats 4000000 in
theorem parts_any (B : Nat) (A A' : Option Addr) (n c n' c' : Nat) (vs : List Int) (es : List Edg) (w : World) (h : RdU w B A n c vs) (h' : RdE w B A' n' c' es) (hn : n ≤ 1000000) (hB : B ≤ w.heap.size)
    (hs : vs.Pairwise (· < ·)) (hends : ∀ e ∈ es, e.2.1 ∈ vs ∧ e.2.2 ∈ vs) :
    Calls Try.prog 17 #[.agg #[.slice A n c, .slice A' n' c']] w fun e w' => ∃ r A2 c2, e = .returned (.slice A2 (partsTo vs es n).length c2) ∧ OwnUU w' w.heap.size w'.heap.size r A2 (partsTo vs es n).length c2 (partsTo vs es n) ∧ Below w.heap.size w w' := by
  obtain ⟨hnc, hc⟩ := h.bd
  obtain ⟨hnc', hc'⟩ := h'.bd
  have HL := Lib.hid h.len
  have HL' := Lib.hid h'.len
  have HND : Hid vs.Nodup := hs.imp fun h => by omega
  have HE := Lib.hid hends
  have HSO := Lib.hid hs
  clear hends hs
  have hmm := @run_makeMap Try.prog
  have HB := Lib.hid (((Below.refl w.heap.size w).alloc (Nat.le_refl _) (.cells #[.slice A n c, .slice A' n' c'] 25)).alloc (by simp) (.map #[] 0))
  have HG0 := Lib.hid ((Blk.new w 25 #[.slice A n c, .slice A' n' c']).alloc (.map #[] 0))
  have hM0 := MapOf.made (w.alloc (.cells #[.slice A n c, .slice A' n' c'] 25)) .u32 encU32
  simp only [World.size_alloc] at hM0
  have HM0 := Lib.hid hM0
  clear hM0
  go_enter Try.func17, Try.ntmps17
  go_wp2
  -- each vertex bears its own number
  go_loopw [21] (fun i wr => ∃ k : Nat, k ≤ n ∧ i = .int .i64 k ∧ MapOf wr (w.heap.size + 1) .u32 encU32 (mapF (vs.take k) id) ∧ Below w.heap.size w wr ∧ Blk wr w.heap.size 25 #[.slice A n c, .slice A' n' c']) (fun i _ => n - (intOf i).toNat)
  case atStart => exact ⟨0, by omega, rfl, HM0.out, HB.out, HG0.out⟩
  case round =>
    obtain ⟨k, hk, rfl, hM, hbr, hG⟩ := hrel
    have hq := h.below (hbr.mono hB)
    obtain ⟨hg0, hg1⟩ := hG.c2
    have hsz := hG.lt
    by_cases hlt : k < n
    · obtain ⟨ad, x, rfl, hbl, hx, hxb, hc1⟩ := hq.at_ hlt
      have HS : Hid (mput (mapF (vs.take k) id) x x = mapF (vs.take (k + 1)) id) := by
        show _ = _
        rw [take_at hx]
        refine mput_mapF_new id fun hm => ?_
        obtain ⟨i, hi, e1⟩ := List.mem_iff_getElem.1 hm
        have hil : i < k := by rw [List.length_take] at hi; omega
        rw [List.getElem_take] at e1
        obtain ⟨hkl, e2⟩ := List.getElem?_eq_some_iff.1 hx
        have := (List.getElem_inj HND.out).1 (e1.trans e2.symm)
        omega
      have HMM := Lib.hid hM
      clear hx hM
      go_wp2_with (refine wpList_mput rfl (.tmp 25) (.tmp 26) (.tmp 27) _ 31 31 rfl Try.underlying79 Try.underlying31 x x HMM.out rfl rfl rfl ?_; intro w2 k1 k2 k3)
      go_roundw
      case rel => exact ⟨k + 1, by omega, by go_num, by rw [← HS.out]; exact k1, hbr.grown k2 hbr.size (by intro g hg; cases hg; omega), hG.grown k2 (by simp)⟩
      case measure => simp [intOf]; omega
    · obtain rfl : k = n := by omega
      have hM' : MapOf wr (w.heap.size + 1) .u32 encU32 (mapF vs (labTo es 0)) := by rw [List.take_of_length_le (by have := HL.out; omega)] at hM; exact hM
      clear hM HM0 HG0 HB
      obtain ⟨wo, rfl⟩ : ∃ wo : World, wo = wr := ⟨_, rfl⟩
      go_wp2
      -- each edge
      go_loopw [32] (fun i wr => ∃ j : Nat, j ≤ n' ∧ i = .int .i64 j ∧ MapOf wr (w.heap.size + 1) .u32 encU32 (mapF vs (labTo es j)) ∧ Below w.heap.size w wr ∧ Blk wr w.heap.size 25 #[.slice A k c, .slice A' n' c']) (fun i _ => n' - (intOf i).toNat)
      case atStart => exact ⟨0, by omega, rfl, hM', hbr, hG⟩
      case round =>
        clear hM' hbr hG hq hg0 hg1 hsz
        obtain ⟨j, hj, rfl, hM, hbr, hG⟩ := hrel
        have hq := h'.below (hbr.mono hB)
        obtain ⟨hg0, hg1⟩ := hG.c2
        have hsz := hG.lt
        by_cases hlt2 : j < n'
        · obtain ⟨ad, x, rfl, hbl, hx, hxb, hc1, hc2, hc3⟩ := hq.at_ hlt2
          have HST : Hid (labTo es (j + 1) = lstep (labTo es j) x) := labTo_succ hx
          have hmem := HE.out x (List.mem_of_getElem? hx)
          clear hx
          obtain ⟨w1, rfl⟩ : ∃ w1 : World, w1 = wr := ⟨_, rfl⟩
          have HMX := Lib.hid (hM.alloc (.cells #[.int .u32 x.1, .int .u32 x.2.1, .int .u32 x.2.2] 39))
          have hlA : ∀ q, (Instr.lookup 79 (.map (some (w.heap.size + 1))) (.int .u32 x.2.1) false).run Try.prog ((w1.alloc (.cells #[.int .u32 x.1, .int .u32 x.2.1, .int .u32 x.2.2] 39)).drewN q) = .ok (.int .u32 (labTo es j x.2.1)) ((w1.alloc (.cells #[.int .u32 x.1, .int .u32 x.2.1, .int .u32 x.2.2] 39)).drewN q) := fun q => by
            have := (HMX.out.drewN q).lookup Try.underlying79 Try.underlying31 (zeroU _) x.2.1
            rw [mget_mapF, if_pos hmem.1] at this; exact this
          have hlB : ∀ q, (Instr.lookup 79 (.map (some (w.heap.size + 1))) (.int .u32 x.2.2) false).run Try.prog ((w1.alloc (.cells #[.int .u32 x.1, .int .u32 x.2.1, .int .u32 x.2.2] 39)).drewN q) = .ok (.int .u32 (labTo es j x.2.2)) ((w1.alloc (.cells #[.int .u32 x.1, .int .u32 x.2.1, .int .u32 x.2.2] 39)).drewN q) := fun q => by
            have := (HMX.out.drewN q).lookup Try.underlying79 Try.underlying31 (zeroU _) x.2.2
            rw [mget_mapF, if_pos hmem.2] at this; exact this
          have hz : ∀ q, ((w1.alloc (.cells #[.int .u32 x.1, .int .u32 x.2.1, .int .u32 x.2.2] 39)).drewN q).heap.size = w1.heap.size + 1 := fun q => World.size_alloc _ _
          go_wp2_with fail
          go_quiet (fail)
          go_wp2_with (refine wpList_mrange rfl (.tmp 44) _ 31 31 rfl Try.underlying79 (HMX.out.drewN _) rfl ?_; intro w2 k1 k2 k3; simp only [hz])
          have HT := Lib.hid (show Blk _ w.heap.size 25 _ from ((hG.alloc (.cells #[.int .u32 x.1, .int .u32 x.2.1, .int .u32 x.2.2] 39)).drewN _).grown k2 (by simp))
          have HX := Lib.hid (show Blk _ w1.heap.size 39 _ from ((Blk.new w1 39 #[.int .u32 x.1, .int .u32 x.2.1, .int .u32 x.2.2]).drewN _).grown k2 (by simp))
          have HBR := Lib.hid (show Below w.heap.size w w2 from (below_drewN (hbr.alloc hbr.size _) _).grown k2 (by simp; exact Nat.le_succ_of_le hbr.size) (by intro g hg; cases hg))
          have HI := Lib.hid k1
          have hw1 : w.heap.size + 1 < w1.heap.size := hM.lt
          clear hM hG hq hg0 hg1 HMX hlA hlB hbl hxb hc1 hc2 hc3 hbr hsz k1
          go_frame
          go_loopg [] (k + 1) (fun m wr2 => ∃ left : List Int, left.length < m ∧ left.Nodup ∧ Iter wr2 (w.heap.size + 1) (w1.heap.size + 1) .u32 encU32 (mapF vs (midF (labTo es j) (lstep (labTo es j) x) left)) left ∧ Below w.heap.size w wr2 ∧ Blk wr2 w.heap.size 25 #[.slice A k c, .slice (some ad) n' c'] ∧ Blk wr2 w1.heap.size 39 #[.int .u32 x.1, .int .u32 x.2.1, .int .u32 x.2.2])
          case atStart =>
            refine ⟨vs, by have := HL.out; omega, HND.out, ?_, HBR.out, HT.out, HX.out⟩
            have e1 := HI.out
            rw [mkeys_mapF] at e1
            rw [mapF_congr (g := labTo es j) fun v hv => by unfold midF; rw [if_pos hv]]
            simpa using e1
          case round =>
            clear HT HX HBR HI
            obtain ⟨left, hll, hln, hI, hb2, hG2, hX2⟩ := hrel
            obtain ⟨hg0, hg1⟩ := hG2.c2
            obtain ⟨hx0, hx1, hx2⟩ := hX2.c3
            have hxs := hX2.lt
            have HI := Lib.hid hI
            clear hI
            go_wp2_with (first
              | (at_next; refine wpList_mnext rfl (.tmp 45) rfl HI.out rfl (fun h0 => ?_) (fun y v w3 m1 m2 m3 m4 m5 m6 hen => ?_) <;> try simp only [encU32] at hen ⊢)
              | (refine wpList_mputIter rfl (.tmp 56) (.tmp 57) (.tmp 60) _ 31 31 rfl Try.underlying79 Try.underlying31 y _ m4 (by rw [← mget_some, m3]; rfl) rfl rfl rfl ?_; intro w4 p1 p2 p3))
            · -- all gone through
              subst h0
              have hM2 := HI.out.map
              rw [mapF_congr (g := labTo es (j + 1)) fun v _ => by unfold midF; rw [if_neg (by simp), HST.out]] at hM2
              exact ⟨⟨j + 1, by omega, by go_num, hM2, hb2, hG2⟩, by simp [intOf]; omega⟩
            all_goals
              obtain ⟨hyv, rfl⟩ := mid_get m1 m3
              have hlen : (left.erase y).length < left.length := by rw [List.length_erase_of_mem m1]; have := List.length_pos_of_mem m1; omega
              have hw3 : Below w.heap.size w w3 := hb2.grown m5 hb2.size (by intro g hg; cases hg; omega)
              have hG3 := hG2.grown m5 (by simp; omega)
              have hX3 := hX2.grown m5 (by simp)
              first
                | have ht : (labTo es j y == if labTo es j x.2.1 < labTo es j x.2.2 then labTo es j x.2.2 else labTo es j x.2.1) = false := by assumption
                  have hgy : lstep (labTo es j) x y = labTo es j y := by
                    unfold lstep; rw [if_neg (show ¬ labTo es j y = mxI (labTo es j x.2.1) (labTo es j x.2.2) from fun e => by rw [beq_eq_false_iff_ne] at ht; exact ht e)]
                  rw [← mid_keep m2 hgy] at m4
                  go_roundg left.length
                  case rel => exact ⟨left.erase y, hlen, m2.erase y, m4, hw3, hG3, hX3⟩
                  case measure => exact hll
                | have ht : (labTo es j y == if labTo es j x.2.1 < labTo es j x.2.2 then labTo es j x.2.2 else labTo es j x.2.1) = true := by assumption
                  have hgy : (if labTo es j x.2.2 < labTo es j x.2.1 then labTo es j x.2.2 else labTo es j x.2.1) = lstep (labTo es j) x y := by
                    show mnI (labTo es j x.2.1) (labTo es j x.2.2) = _; unfold lstep; rw [if_pos (show labTo es j y = mxI (labTo es j x.2.1) (labTo es j x.2.2) from beq_iff_eq.1 ht)]
                  rw [hgy, mid_put m2 hyv] at p1
                  go_roundg left.length
                  case rel => exact ⟨left.erase y, hlen, m2.erase y, p1, hw3.grown p2 hw3.size (by intro g hg; cases hg; omega), hG3.grown p2 (by simp), hX3.grown p2 (by simp; omega)⟩
                  case measure => exact hll
        · obtain rfl : j = n' := by omega
          rw [show labTo es j = lab es by rw [← HL'.out]; exact labTo_all es] at hM
          have hq := h.below (hbr.mono hB)
          obtain ⟨w1, rfl⟩ : ∃ w1 : World, w1 = wr := ⟨_, rfl⟩
          have HMP := Lib.hid hM
          have HBR := Lib.hid hbr
          have HGG := Lib.hid hG
          have hMA := MapOf.made w1 .u32 encI64
          have HMA := Lib.hid hMA
          clear hM hbr hG hMA
          have hG1 : w.heap.size + 1 < w1.heap.size := HMP.out.lt
          go_wp2
          go_loopw [12, 66] (fun s12 i wr => ∃ (m : Nat) (r : Option Nat) (A2 : Option Addr) (c2 : Nat) (am : List (Int × Int)), m ≤ k ∧ i = .int .i64 m ∧ s12 = .slice A2 (rootsLen vs es m) c2 ∧ OwnUU wr w.heap.size wr.heap.size r A2 (rootsLen vs es m) c2 (fillTo vs es m) ∧
            MapOf wr (w.heap.size + 1) .u32 encU32 (mapF vs (lab es)) ∧ MapOf wr w1.heap.size .u32 encI64 am ∧ Hid (∀ (i : Nat) (r : Int), (rootsTo vs es m)[i]? = some r → mget am r = some (i : Int)) ∧ Below w.heap.size w wr ∧ Blk wr w.heap.size 25 #[.slice A k c, .slice A' j c']) (fun _ i _ => k - (intOf i).toNat)
          case atStart =>
            refine ⟨0, none, none, 0, [], by omega, rfl, by simp [rootsLen, rootsTo], ?_, HMP.out.alloc _, HMA.out, (by intro i r e; simp [rootsTo] at e), HBR.out.alloc HBR.out.size _, HGG.out.alloc _⟩
            have := OwnUU.nil_ (w1.alloc (.map #[] 0)) w.heap.size (w1.alloc (.map #[] 0)).heap.size
            simpa [fillTo, rootsLen, rootsTo] using this
          case round =>
            clear HMA HGG HBR HMP
            obtain ⟨m, r, A2, c2, am, hm, rfl, rfl, hown, hM, hMA, hat, hbr, hG⟩ := hrel
            have hq := h.below (hbr.mono hB)
            obtain ⟨hg0, hg1⟩ := hG.c2
            have hsz := hG.lt
            have hrl := rootsLen_le vs es m
            by_cases hlt3 : m < k
            · obtain ⟨ad, x, rfl, hbl, hx, hxb, hc1⟩ := hq.at_ hlt3
              have HX := Lib.hid hx
              have hmem := List.mem_of_getElem? hx
              have HLK : Hid (((mget (mapF vs (lab es)) x).map encU32).getD (.int .u32 0) = .int .u32 (lab es x)) := by
                show _ = _; rw [mget_mapF, if_pos hmem]; rfl
              have HO := Lib.hid hown
              have HM := Lib.hid hM
              have HMA := Lib.hid hMA
              have HAT : Hid (∀ (i : Nat) (r : Int), (rootsTo vs es m)[i]? = some r → mget am r = some (i : Int)) := hat
              clear hx hmem hown hM hMA hat
              by_cases he : lab es x = x
              · have he' : (lab es x == x) = true := by simp [he]
                have HEQ := Lib.hid he
                clear he
                go_wp2_with (first
                  | (refine buildNil rfl rfl ?_)
                  | (at_builtin; go_loud (refine appUU1 rfl (.tmp 80) (.tmp 81) rfl _ w.heap.size wr.heap.size _ _ _ _ _ rfl ho2 (by simp; omega) hbr.size w2.heap.size (none, 0, 0) none [] rfl (Blk.new _ _ _) (OwnU.nil_ _ _) (fun g e => by cases e) (by omega) ?_); intro r3 A3 c3 w3 m1 m2 m3)
                  | (refine wpList_mlook rfl (.tmp 70) (.tmp 71) _ 31 31 rfl Try.underlying79 Try.underlying31 zeroU x HM.out rfl rfl ?_; rw [HLK.out])
                  | (refine wpList_mput rfl (.tmp 76) (.tmp 77) (.tmp 79) _ 31 3 rfl Try.underlying80 Try.underlying31 (lab es x) (rootsLen vs es m : Int) HMA.out rfl rfl rfl ?_; intro w2 k1 k2 k3; have ho2 := (HO.out.kept k2 (fun g cur e => by cases e; exact ⟨fun hc => HMA.out.ne_cells hc rfl, fun hc => HMA.out.ne_cells hc rfl⟩)).alloc (by omega) (.cells #[.slice none 0 0] 22)))
                have hsz1 := hbr.size
                have hne2 : ∀ (b : Nat) (W : World) (mm : List (Int × Int)), MapOf wr b .u32 encU32 mm ∨ MapOf wr b .u32 encI64 mm → some b ≠ r := by
                  obtain ⟨hs', rs', p1, _⟩ := HO.out
                  rintro b W mm (hh | hh)
                  · exact own_map_ne p1 hh
                  · exact own_map_ne p1 hh
                have HM3 := Lib.hid (show MapOf w3 _ _ _ _ from ((HM.out.grown k2 (by simp; omega)).alloc _).grown m2 (hne2 _ wr _ (.inl HM.out)))
                have HA3 := Lib.hid (show MapOf w3 _ _ _ _ from (k1.alloc _).grown m2 (hne2 _ wr _ (.inr HMA.out)))
                have HB3 := Lib.hid (show Below w.heap.size w w3 from by
                  obtain ⟨hs', rs', p1, p2, p3, _⟩ := HO.out
                  exact ((hbr.grown k2 hbr.size (by intro g hg; cases hg; omega)).alloc (by omega) _).grown m2 (by simp; omega) (fun g hg => (p3 g hg).1))
                have HG3 := Lib.hid (show Blk w3 _ _ _ from by
                  refine ((hG.grown k2 (by simp; omega)).alloc _).grown m2 (fun e => ?_)
                  obtain ⟨hs', rs', p1, p2, p3, _⟩ := HO.out
                  have h1 := (p3 _ e.symm).1
                  obtain ⟨cur, hh⟩ := p1.block e.symm
                  exact absurd rfl (Blk.ne_ (t := 22) (cs := cur) hh hG (by decide)))
                have hrs := rootsTo_succ (es := es) HX.out
                rw [if_pos HEQ.out] at hrs
                have hrl1 : rootsLen vs es (m + 1) = rootsLen vs es m + 1 := by unfold rootsLen; rw [hrs]; simp
                have HAT3 : Hid (∀ (i : Nat) (r : Int), (rootsTo vs es (m + 1))[i]? = some r → mget (mput am (lab es x) (rootsLen vs es m : Int)) r = some (i : Int)) := by
                  intro i r hi
                  rw [mget_mput]
                  rw [hrs] at hi
                  by_cases hil : i < (rootsTo vs es m).length
                  · rw [List.getElem?_append_left hil] at hi
                    rw [if_neg, HAT.out i r hi]
                    intro e
                    have hm1 : r ∈ vs.take m := (List.mem_filter.1 (List.mem_of_getElem? hi)).1
                    have := lt_of_take HSO.out HX.out hm1
                    have := HEQ.out
                    omega
                  · rw [List.getElem?_append_right (by omega)] at hi
                    have hi0 : i - (rootsTo vs es m).length = 0 := by
                      rcases Nat.eq_zero_or_pos (i - (rootsTo vs es m).length) with h0 | h0
                      · exact h0
                      · rw [List.getElem?_eq_none (by simp; omega)] at hi; cases hi
                    rw [hi0] at hi
                    simp only [List.getElem?_cons_zero, Option.some.injEq] at hi
                    rw [if_pos (by rw [HEQ.out, hi])]
                    have : i = rootsLen vs es m := by unfold rootsLen; omega
                    rw [this]
                rw [← fillMid_new HSO.out HX.out HEQ.out] at m1
                rw [← hrl1] at m1
                have HO3 := Lib.hid m1
                simp only [← hrl1]
                clear HO HM HMA HAT k1 ho2 m1 hne2 hrs
                -- 'out[at[p]] = append(out[at[p]], v)'
                obtain ⟨i0, hi0, hi1⟩ := root_at HSO.out HE.out HX.out
                obtain ⟨hs0, rs0, p1, p2, p3, p4, p5, p6, p7⟩ := HO3.out
                have hi2 : i0 < (fillMid vs es m).length := by rw [fillMid_len]; exact hi1
                obtain ⟨⟨A0, n0, c0⟩, eh0⟩ : ∃ h0, hs0[i0]? = some h0 := ⟨hs0[i0]'(by omega), List.getElem?_eq_getElem _⟩
                obtain ⟨q0, eq0⟩ : ∃ q0, rs0[i0]? = some q0 := ⟨rs0[i0]'(by omega), List.getElem?_eq_getElem _⟩
                have hrow := (p6 i0 _ q0 _ eh0 eq0 (fillMid_at hi0)).1
                obtain ⟨g, rfl, rfl, hgl, hgc, hgf⟩ := p1.at_one (j := i0) (v := .slice A0 n0 c0) (by rw [List.getElem?_map, eh0]; rfl)
                have hrn : n0 ≤ m := by have hl9 := hrow.len; simp only at hl9; rw [← hl9]; exact rowTo_len vs es m _
                have hlk : ∀ W : World, MapOf W w1.heap.size .u32 encI64 (mput am (lab es x) (rootsLen vs es m : Int)) → (Instr.lookup 80 (.map (some w1.heap.size)) (.int .u32 (lab es x)) false).run Try.prog W = .ok (.int .i64 i0) W := fun W hW => by
                  have := hW.lookup Try.underlying80 Try.underlying31 (zeroI _) (lab es x)
                  rw [HAT3.out i0 _ hi0] at this; exact this
                have hl0 : (Instr.lookup 80 (.map (some w1.heap.size)) (.int .u32 (lab es x)) false).run Try.prog w3.drew = .ok (.int .i64 i0) w3.drew := hlk _ HA3.out.drew
                have hl1 : (Instr.lookup 80 (.map (some w1.heap.size)) (.int .u32 (lab es x)) false).run Try.prog (w3.alloc (.cells #[.int .u32 x] 31)).drew = .ok (.int .i64 i0) (w3.alloc (.cells #[.int .u32 x] 31)).drew := hlk _ (HA3.out.alloc _).drew
                have HLK := Lib.hid hlk
                have HP := Lib.hid p1
                have HROW := Lib.hid hrow
                have hv0 : (hs0.map hdV)[i0]? = some (.slice A0 n0 c0) := by rw [List.getElem?_map, eh0]; rfl
                have hgq : ∀ q, q0 = q → some g ≠ q := by
                  rintro q rfl e
                  obtain ⟨cu1, e1⟩ := hrow.1.1.block e.symm
                  obtain ⟨cu2, e2⟩ := p1.block rfl
                  rw [e1] at e2
                  injection e2 with e2
                  injection e2 with _ e2
                  revert e2; decide
                have hb0 : (0 : Int) ≤ (i0 : Int) := by omega
                have hb1 : (i0 : Int) < (rootsLen vs es (m + 1) : Int) := by omega
                have hb3 : (i0 : Int) < (rootsLen vs es m : Int) + 1 := by omega
                have hb2 : IntKind.i64.wrap (i0 : Int) = i0 := IntWalk.i64_in _ (by omega)
                have HPUT : Hid (∀ (w4 : World) (q' : Option Nat) (A4 : Option Addr) (n4 c4 : Nat) (ys : List Int), (w3.alloc (.cells #[.int .u32 x] 31)).grownBy w4 q0 → (q' = q0 ∨ ∀ g, q' = some g → (w3.alloc (.cells #[.int .u32 x] 31)).heap.size ≤ g) → OwnU w4 q' A4 n4 c4 ys →
                    OwnUU (w4.setCell ⟨g, i0, none⟩ (.slice A4 n4 c4)) w.heap.size w4.heap.size (some g) (some ⟨g, 0, none⟩) (rootsLen vs es (m + 1)) c3 ((fillMid vs es m).set i0 ys)) := fun w4 q' A4 n4 c4 ys hG hq hy =>
                  OwnUU.put (p1.alloc _) p2 p3 p4 p5 (fun j h q xs a b d => ⟨(p6 j h q xs a b d).1.alloc _, (p6 j h q xs a b d).2⟩) p7 eq0 hG hq hy (by simp) (by simp; exact Nat.le_succ_of_le HB3.out.size)
                have hwg : w.heap.size ≤ g := (p3 g rfl).1
                have hGne : w.heap.size ≠ g := by
                  obtain ⟨cu2, e2⟩ := p1.block rfl
                  exact fun e => absurd rfl (Blk.ne_ (t := 22) (cs := cu2) (e ▸ e2) HG3.out (by decide))
                have hq0 : ∀ g', q0 = some g' → w.heap.size ≤ g' := fun g' e => ((p6 i0 _ q0 _ eh0 eq0 (fillMid_at hi0)).2 g' e).1
                have hq0G : some w.heap.size ≠ q0 := fun e => by
                  obtain ⟨cur, hh⟩ := hrow.1.1.block e.symm
                  exact absurd rfl (Blk.ne_ (t := 31) (cs := cur) hh HG3.out (by decide))
                have hFS : Hid (fillTo vs es (m + 1) = (fillMid vs es m).set i0 (rowTo vs es m (lab es x) ++ [x])) := fillTo_succ HSO.out HX.out hi0
                have HMG : Hid (w.heap.size + 1 ≠ g ∧ w1.heap.size ≠ g) := by
                  obtain ⟨cu2, e2⟩ := p1.block rfl
                  exact ⟨HM3.out.ne_cells e2, HA3.out.ne_cells e2⟩
                clear hlk p1 p2 p3 p4 p5 p6 p7 hrow
                go_region_law (refine stepU rfl (.tmp 92) (.tmp 94) rfl _ q0 A0 n0 c0 (rowTo vs es m (lab es x)) rfl (HROW.out.alloc _) _ _ 1 1 [x] rfl (RdU.one (Blk.new w3 _ _) hxb) (by omega) ?_; intro r4 A4 c4 w4 q1 q2 q3; have hl4 := HLK.out w4 ((HA3.out.drew.alloc _).grown q2 (own_map_ne HROW.out.1.1 HA3.out)); have hP4 := (HP.out.drew.alloc (.cells #[.int .u32 x] 31)).kept q2 (.inr (hgq q0 rfl)); obtain ⟨g', e1, _, hg4, hc4, hf4⟩ := hP4.at_one (j := i0) (v := .slice A0 n0 c0) hv0; cases e1)
                all_goals
                  have G2 : (w3.alloc (.cells #[.int .u32 x] 31)).grownBy w4 q0 := ⟨q2.os, q2.tape, q2.output, q2.size, q2.block⟩
                  have hFO := HPUT.out w4 r4 A4 (n0 + 1) c4 _ G2 q3 q1
                  rw [← hFS.out] at hFO
                  have hFM := ((HM3.out.alloc (.cells #[.int .u32 x] 31)).grown G2 (own_map_ne HROW.out.1.1 HM3.out)).setCell (p := ⟨g, i0, none⟩) HMG.out.1 (.slice A4 (n0 + 1) c4)
                  have hFA := ((HA3.out.alloc (.cells #[.int .u32 x] 31)).grown G2 (own_map_ne HROW.out.1.1 HA3.out)).setCell (p := ⟨g, i0, none⟩) HMG.out.2 (.slice A4 (n0 + 1) c4)
                  have hFB := (((HB3.out.alloc HB3.out.size (.cells #[.int .u32 x] 31)).grown G2 (by simp; exact Nat.le_succ_of_le HB3.out.size) hq0)).setCell (p := ⟨g, i0, none⟩) hwg (.slice A4 (n0 + 1) c4)
                  have hFG := ((HG3.out.alloc (.cells #[.int .u32 x] 31)).grown G2 hq0G).far (p := ⟨g, i0, none⟩) hGne (.slice A4 (n0 + 1) c4)
                  go_wp2
                  go_roundw
                  case rel => exact ⟨m + 1, some g, some ⟨g, 0, none⟩, c3, mput am (lab es x) (rootsLen vs es m : Int), by omega, by go_num, by rw [hrl1], by simpa using hFO, hFM, hFA, HAT3.out, hFB, hFG⟩
                  case measure => simp [intOf]; omega
              · have he' : (lab es x == x) = false := by simp [he]
                have HEQ := Lib.hid he
                clear he
                go_wp2_with (refine wpList_mlook rfl (.tmp 70) (.tmp 71) _ 31 31 rfl Try.underlying79 Try.underlying31 zeroU x HM.out rfl rfl ?_; rw [HLK.out])
                have hsz1 := hbr.size
                have HM3 := Lib.hid HM.out
                have HA3 := Lib.hid HMA.out
                have HB3 := Lib.hid hbr
                have HG3 := Lib.hid hG
                have hrs := rootsTo_succ (es := es) HX.out
                rw [if_neg HEQ.out, List.append_nil] at hrs
                have hrl1 : rootsLen vs es (m + 1) = rootsLen vs es m := by unfold rootsLen; rw [hrs]
                have HAT3 : Hid (∀ (i : Nat) (r : Int), (rootsTo vs es (m + 1))[i]? = some r → mget am r = some (i : Int)) := by
                  intro i r hi
                  rw [hrs] at hi
                  exact HAT.out i r hi
                have m1 := HO.out
                rw [← fillMid_old HX.out HEQ.out, ← hrl1] at m1
                have HO3 := Lib.hid m1
                clear HO HM HMA HAT m1 hrs
                -- 'out[at[p]] = append(out[at[p]], v)'
                obtain ⟨i0, hi0, hi1⟩ := root_at HSO.out HE.out HX.out
                obtain ⟨hs0, rs0, p1, p2, p3, p4, p5, p6, p7⟩ := HO3.out
                have hi2 : i0 < (fillMid vs es m).length := by rw [fillMid_len]; exact hi1
                obtain ⟨⟨A0, n0, c0⟩, eh0⟩ : ∃ h0, hs0[i0]? = some h0 := ⟨hs0[i0]'(by omega), List.getElem?_eq_getElem _⟩
                obtain ⟨q0, eq0⟩ : ∃ q0, rs0[i0]? = some q0 := ⟨rs0[i0]'(by omega), List.getElem?_eq_getElem _⟩
                have hrow := (p6 i0 _ q0 _ eh0 eq0 (fillMid_at hi0)).1
                obtain ⟨g, rfl, rfl, hgl, hgc, hgf⟩ := p1.at_one (j := i0) (v := .slice A0 n0 c0) (by rw [List.getElem?_map, eh0]; rfl)
                have hrn : n0 ≤ m := by have hl9 := hrow.len; simp only at hl9; rw [← hl9]; exact rowTo_len vs es m _
                have hlk : ∀ W : World, MapOf W w1.heap.size .u32 encI64 (am) → (Instr.lookup 80 (.map (some w1.heap.size)) (.int .u32 (lab es x)) false).run Try.prog W = .ok (.int .i64 i0) W := fun W hW => by
                  have := hW.lookup Try.underlying80 Try.underlying31 (zeroI _) (lab es x)
                  rw [HAT3.out i0 _ hi0] at this; exact this
                have hl0 : (Instr.lookup 80 (.map (some w1.heap.size)) (.int .u32 (lab es x)) false).run Try.prog wr.drew = .ok (.int .i64 i0) wr.drew := hlk _ HA3.out.drew
                have hl1 : (Instr.lookup 80 (.map (some w1.heap.size)) (.int .u32 (lab es x)) false).run Try.prog (wr.alloc (.cells #[.int .u32 x] 31)).drew = .ok (.int .i64 i0) (wr.alloc (.cells #[.int .u32 x] 31)).drew := hlk _ (HA3.out.alloc _).drew
                have HLK := Lib.hid hlk
                have HP := Lib.hid p1
                have HROW := Lib.hid hrow
                have hv0 : (hs0.map hdV)[i0]? = some (.slice A0 n0 c0) := by rw [List.getElem?_map, eh0]; rfl
                have hgq : ∀ q, q0 = q → some g ≠ q := by
                  rintro q rfl e
                  obtain ⟨cu1, e1⟩ := hrow.1.1.block e.symm
                  obtain ⟨cu2, e2⟩ := p1.block rfl
                  rw [e1] at e2
                  injection e2 with e2
                  injection e2 with _ e2
                  revert e2; decide
                have hb0 : (0 : Int) ≤ (i0 : Int) := by omega
                have hb1 : (i0 : Int) < (rootsLen vs es (m + 1) : Int) := by omega
                have hb3 : (i0 : Int) < (rootsLen vs es m : Int) := by omega
                have hb2 : IntKind.i64.wrap (i0 : Int) = i0 := IntWalk.i64_in _ (by omega)
                have HPUT : Hid (∀ (w4 : World) (q' : Option Nat) (A4 : Option Addr) (n4 c4 : Nat) (ys : List Int), (wr.alloc (.cells #[.int .u32 x] 31)).grownBy w4 q0 → (q' = q0 ∨ ∀ g, q' = some g → (wr.alloc (.cells #[.int .u32 x] 31)).heap.size ≤ g) → OwnU w4 q' A4 n4 c4 ys →
                    OwnUU (w4.setCell ⟨g, i0, none⟩ (.slice A4 n4 c4)) w.heap.size w4.heap.size (some g) (some ⟨g, 0, none⟩) (rootsLen vs es (m + 1)) c2 ((fillMid vs es m).set i0 ys)) := fun w4 q' A4 n4 c4 ys hG hq hy =>
                  OwnUU.put (p1.alloc _) p2 p3 p4 p5 (fun j h q xs a b d => ⟨(p6 j h q xs a b d).1.alloc _, (p6 j h q xs a b d).2⟩) p7 eq0 hG hq hy (by simp) (by simp; exact Nat.le_succ_of_le HB3.out.size)
                have hwg : w.heap.size ≤ g := (p3 g rfl).1
                have hGne : w.heap.size ≠ g := by
                  obtain ⟨cu2, e2⟩ := p1.block rfl
                  exact fun e => absurd rfl (Blk.ne_ (t := 22) (cs := cu2) (e ▸ e2) HG3.out (by decide))
                have hq0 : ∀ g', q0 = some g' → w.heap.size ≤ g' := fun g' e => ((p6 i0 _ q0 _ eh0 eq0 (fillMid_at hi0)).2 g' e).1
                have hq0G : some w.heap.size ≠ q0 := fun e => by
                  obtain ⟨cur, hh⟩ := hrow.1.1.block e.symm
                  exact absurd rfl (Blk.ne_ (t := 31) (cs := cur) hh HG3.out (by decide))
                have hFS : Hid (fillTo vs es (m + 1) = (fillMid vs es m).set i0 (rowTo vs es m (lab es x) ++ [x])) := fillTo_succ HSO.out HX.out hi0
                have HMG : Hid (w.heap.size + 1 ≠ g ∧ w1.heap.size ≠ g) := by
                  obtain ⟨cu2, e2⟩ := p1.block rfl
                  exact ⟨HM3.out.ne_cells e2, HA3.out.ne_cells e2⟩
                clear hlk p1 p2 p3 p4 p5 p6 p7 hrow
                go_region_law (refine stepU rfl (.tmp 92) (.tmp 94) rfl _ q0 A0 n0 c0 (rowTo vs es m (lab es x)) rfl (HROW.out.alloc _) _ _ 1 1 [x] rfl (RdU.one (Blk.new wr _ _) hxb) (by omega) ?_; intro r4 A4 c4 w4 q1 q2 q3; have hl4 := HLK.out w4 ((HA3.out.drew.alloc _).grown q2 (own_map_ne HROW.out.1.1 HA3.out)); have hP4 := (HP.out.drew.alloc (.cells #[.int .u32 x] 31)).kept q2 (.inr (hgq q0 rfl)); obtain ⟨g', e1, _, hg4, hc4, hf4⟩ := hP4.at_one (j := i0) (v := .slice A0 n0 c0) hv0; cases e1)
                all_goals
                  have G2 : (wr.alloc (.cells #[.int .u32 x] 31)).grownBy w4 q0 := ⟨q2.os, q2.tape, q2.output, q2.size, q2.block⟩
                  have hFO := HPUT.out w4 r4 A4 (n0 + 1) c4 _ G2 q3 q1
                  rw [← hFS.out] at hFO
                  have hFM := ((HM3.out.alloc (.cells #[.int .u32 x] 31)).grown G2 (own_map_ne HROW.out.1.1 HM3.out)).setCell (p := ⟨g, i0, none⟩) HMG.out.1 (.slice A4 (n0 + 1) c4)
                  have hFA := ((HA3.out.alloc (.cells #[.int .u32 x] 31)).grown G2 (own_map_ne HROW.out.1.1 HA3.out)).setCell (p := ⟨g, i0, none⟩) HMG.out.2 (.slice A4 (n0 + 1) c4)
                  have hFB := (((HB3.out.alloc HB3.out.size (.cells #[.int .u32 x] 31)).grown G2 (by simp; exact Nat.le_succ_of_le HB3.out.size) hq0)).setCell (p := ⟨g, i0, none⟩) hwg (.slice A4 (n0 + 1) c4)
                  have hFG := ((HG3.out.alloc (.cells #[.int .u32 x] 31)).grown G2 hq0G).far (p := ⟨g, i0, none⟩) hGne (.slice A4 (n0 + 1) c4)
                  go_wp2
                  go_roundw
                  case rel => exact ⟨m + 1, some g, some ⟨g, 0, none⟩, c2, am, by omega, by go_num, by rw [hrl1], by simpa using hFO, hFM, hFA, HAT3.out, hFB, hFG⟩
                  case measure => simp [intOf]; omega
            · obtain rfl : m = k := by omega
              go_wp2
              go_ret
              exact ⟨r, A2, c2, by show Ending.returned (Value.slice A2 (rootsLen vs es m) c2) = _; rw [← fillTo_all vs es HL.out, fillTo_len], by rw [← fillTo_all vs es HL.out, fillTo_len]; exact hown, hbr⟩
end Go.Proofs.Ytklmckbpbloonaa
