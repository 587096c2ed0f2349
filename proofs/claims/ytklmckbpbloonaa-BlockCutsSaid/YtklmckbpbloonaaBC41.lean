/- Parts of the proof: BkW. -/
import Derived.Test.YtklmckbpbloonaaBC33
import Derived.Test.YtklmckbpbloonaaBC34
import Derived.Test.YtklmckbpbloonaaBC38
import Derived.Test.YtklmckbpbloonaaBC39
import Derived.Test.YtklmckbpbloonaaBC40
namespace Go.Proofs.Ytklmckbpbloonaa
open Go.RowKit

theorem lessV_pair {vs : List Int} (h : vs.Pairwise (· < ·)) (v : Int) : (lessV vs v).Pairwise (· < ·) := h.sublist List.filter_sublist
theorem lessE_ends {vs : List Int} {es : List Edg} (h : ∀ e ∈ es, e.2.1 ∈ vs ∧ e.2.2 ∈ vs) (v : Int) : ∀ e ∈ lessE es v, e.2.1 ∈ lessV vs v ∧ e.2.2 ∈ lessV vs v := fun e he => by
  obtain ⟨h1, h2⟩ := List.mem_filter.1 he
  simp only [offV, Bool.and_eq_true, bne_iff_ne, ne_eq] at h2
  exact ⟨List.mem_filter.2 ⟨(h e h1).1, by simpa using h2.1⟩, List.mem_filter.2 ⟨(h e h1).2, by simpa using h2.2⟩⟩
theorem lessV_len (vs : List Int) (v : Int) : (lessV vs v).length ≤ vs.length := List.length_filter_le _ _
theorem ids_take {es : List Edg} {k : Nat} {x : Edg} (h : es[k]? = some x) : (es.take (k + 1)).map (·.1) = (es.take k).map (·.1) ++ [x.1] := by rw [takeE_at h]; simp
theorem ids_new {es : List Edg} (hnd : (ids es).Nodup) {k : Nat} {x : Edg} (h : es[k]? = some x) : x.1 ∉ (es.take k).map (·.1) := fun hm => by
  obtain ⟨i, hi, e1⟩ := List.mem_iff_getElem.1 hm
  rw [List.length_map, List.length_take] at hi
  obtain ⟨hkl, e2⟩ := List.getElem?_eq_some_iff.1 h
  have e3 : (ids es)[i]'(by simp [ids]; omega) = (ids es)[k]'(by simp [ids]; omega) := by
    simp only [List.getElem_map, List.getElem_take] at e1
    simp [ids, e1, e2]
  have := (List.getElem_inj hnd).1 e3
  omega
/-- A map's block has no cells; what reads as a row reads so behind a turn of a map. -/
theorem MapOf.no_cell {α : Type} {w : World} {b : Nat} {q : IntKind} {enc : α → Value} {m : List (Int × α)} (h : MapOf w b q enc m) {a : Addr} {v : Value} (hc : w.cell? a = some v) : a.block ≠ b := by
  obtain ⟨es, clock, hb, _⟩ := h
  rintro rfl
  simp [World.cell?, hb] at hc
theorem Reads.turned {α : Type} {w w' : World} {B size n b : Nat} {A : Option Addr} {xs : List Value} {q : IntKind} {enc : α → Value} {m : List (Int × α)} (h : Reads w B size A n xs) (hm : MapOf w b q enc m) (hg : w.grownBy w' (some b)) : Reads w' B size A n xs :=
  ⟨h.1, fun hn => by
    obtain ⟨ad, e, hb, hc⟩ := h.2 hn
    exact ⟨ad, e, hb, fun j u hu => hg.cell (hc j u hu) (by intro e; injection e with e; exact hm.no_cell (hc j u hu) e)⟩⟩
section
variable {α : Type} {w w' : World} {B n c b : Nat} {A : Option Addr} {q : IntKind} {enc : α → Value} {m : List (Int × α)}
theorem RdU.turned {xs : List Int} (h : RdU w B A n c xs) (hm : MapOf w b q enc m) (hg : w.grownBy w' (some b)) : RdU w' B A n c xs := ⟨h.1.turned hm hg, h.2⟩
theorem RdE.turned {xs : List Edg} (h : RdE w B A n c xs) (hm : MapOf w b q enc m) (hg : w.grownBy w' (some b)) : RdE w' B A n c xs := ⟨h.1.turned hm hg, h.2⟩
theorem RdUU.turned {xs : List (List Int)} (h : RdUU w B A n c xs) (hm : MapOf w b q enc m) (hg : w.grownBy w' (some b)) : RdUU w' B A n c xs := by
  obtain ⟨hs, h1, h2, h3, h4, h5, h6⟩ := h
  exact ⟨hs, h1.turned hm hg, h2, h3, h4, h5, fun j h xs a b => (h6 j h xs a b).turned hm hg⟩
end
def rowsTo (vs : List Int) (es : List Edg) (k : Nat) (r : Int) : List Edg := (es.take k).filter fun x => clsL vs es x.1 == r
theorem rowsTo_succ {vs : List Int} {es : List Edg} {k : Nat} {x : Edg} (h : es[k]? = some x) : rowsTo vs es (k + 1) = fun j => if j = clsL vs es x.1 then rowsTo vs es k (clsL vs es x.1) ++ [x] else rowsTo vs es k j := by
  funext j
  unfold rowsTo
  rw [takeE_at h, List.filter_append]
  by_cases e : j = clsL vs es x.1
  · rw [if_pos e, e]; simp
  · rw [if_neg e]
    have : (clsL vs es x.1 == j) = false := by simp; exact fun h => e h.symm
    simp [this]
theorem rowsTo_all (vs : List Int) (es : List Edg) {n : Nat} (hn : es.length = n) : rowsTo vs es n = blockL vs es := by
  subst hn; funext r; unfold rowsTo blockL; rw [List.take_length]
theorem zeroSE (W : World) : (zeroValue 23).run Try.prog W = .ok (.slice none 0 0) W := by kernel_rfl
/-- The blocks of block.Blocks' own: the graph's box; the classes' map. -/
def BkFr (w w' : World) (g1 g2 : Value) (m : List (Int × Int)) : Prop := Blk w' w.heap.size 25 #[g1, g2] ∧ MapOf w' (w.heap.size + 1) .u32 encU32 m ∧ Below w.heap.size w w' ∧ w.heap.size + 2 ≤ w'.heap.size
section
variable {w w' w'' : World} {g1 g2 : Value} {m m' : List (Int × Int)}
theorem BkFr.on (h : BkFr w w' g1 g2 m) (hb : Below w'.heap.size w' w'') : BkFr w w'' g1 g2 m :=
  ⟨h.1.below hb h.1.lt, h.2.1.below hb h.2.1.lt, h.2.2.1.trans (hb.mono h.2.2.1.size), by have := h.2.2.2; have := hb.size; omega⟩
theorem BkFr.alloc (h : BkFr w w' g1 g2 m) (o : Obj) : BkFr w (w'.alloc o) g1 g2 m := h.on ((Below.refl _ _).alloc (Nat.le_refl _) o)
theorem BkFr.drewN (h : BkFr w w' g1 g2 m) (q : Nat) : BkFr w (w'.drewN q) g1 g2 m := ⟨h.1.drewN q, h.2.1.drewN q, below_drewN h.2.2.1 q, h.2.2.2⟩
theorem BkFr.grown (h : BkFr w w' g1 g2 m) {r : Option Nat} (hg : w'.grownBy w'' r) (hr : ∀ g, r = some g → w.heap.size + 2 ≤ g) : BkFr w w'' g1 g2 m :=
  ⟨h.1.grown hg (fun e => by have := hr _ e.symm; omega), h.2.1.grown hg (fun e => by have := hr _ e.symm; omega), h.2.2.1.grown hg h.2.2.1.size (fun g e => by have := hr g e; omega), by have := h.2.2.2; have := hg.size; omega⟩
theorem BkFr.turn (h : BkFr w w' g1 g2 m) (hg : w'.grownBy w'' (some (w.heap.size + 1))) (hm : MapOf w'' (w.heap.size + 1) .u32 encU32 m') : BkFr w w'' g1 g2 m' :=
  ⟨h.1.grown hg (by simp), hm, h.2.2.1.grown hg h.2.2.1.size (fun g e => by injection e with e; omega), by have := h.2.2.2; have := hg.size; omega⟩
end
set_option maxRecDepth 100000 in
set_option maxHeartbeats 8000000 in
theorem blocks_any (B : Nat) (A A' : Option Addr) (n c n' c' : Nat) (vs : List Int) (es : List Edg) (w : World) (h : RdU w B A n c vs) (h' : RdE w B A' n' c' es) (hB : B ≤ w.heap.size) (hf : Fit vs es) :
    Calls Try.prog 38 #[.agg #[.slice A n c, .slice A' n' c']] w fun e w' => ∃ A2 c2, e = .returned (.slice A2 (blocksL vs es).length c2) ∧ RdEE w' w'.heap.size A2 (blocksL vs es).length c2 (blocksL vs es) ∧ Below w.heap.size w w' := by
  have hl := h.len
  have hl' := h'.len
  have hn64 : n ≤ 64 := by have := hf.nv; omega
  have hn160 : n' ≤ 160 := by have := hf.ne; omega
  have HF := Lib.hid hf
  have HL := Lib.hid hl
  have HL' := Lib.hid hl'
  have HND : Hid (ids es).Nodup := fit_keys hf
  clear hf hl hl'
  have hmm := @run_makeMap Try.prog
  have HFR0 : Hid (BkFr w ((w.alloc (.cells #[.slice A n c, .slice A' n' c'] 25)).alloc (.map #[] 0)) (.slice A n c) (.slice A' n' c') []) := by
    have := MapOf.made (w.alloc (.cells #[.slice A n c, .slice A' n' c'] 25)) .u32 encU32
    simp only [World.size_alloc] at this
    exact ⟨(Blk.new w _ _).alloc _, this, ((Below.refl _ w).alloc (Nat.le_refl _) _).alloc (by simp) _, by simp⟩
  go_enter Try.func38, Try.ntmps38
  go_wp2_with fail
  -- each edge is a class of its own
  go_loopw [29] (fun i wr => ∃ k : Nat, k ≤ n' ∧ i = .int .i64 k ∧ BkFr w wr (.slice A n c) (.slice A' n' c') (mapF ((es.take k).map (·.1)) id)) (fun i _ => n' - (intOf i).toNat)
  case atStart => exact ⟨0, by omega, rfl, by simpa [mapF] using HFR0.out⟩
  case round =>
    clear HFR0
    obtain ⟨k, hk, rfl, hF⟩ := hrel
    by_cases hlt : k < n'
    · obtain ⟨ad, x, rfl, hbl, hx, hxb, hc1, hc2, hc3⟩ := (h'.below (hF.2.2.1.mono hB)).at_ hlt
      have HS : Hid (mput (mapF ((es.take k).map (·.1)) id) x.1 x.1 = mapF ((es.take (k + 1)).map (·.1)) id) := by
        show _ = _
        rw [ids_take hx]
        exact mput_mapF_new id (ids_new HND.out hx)
      have HFX := Lib.hid (hF.alloc (.cells #[.int .u32 x.1, .int .u32 x.2.1, .int .u32 x.2.2] 39))
      clear hx hF
      go_wp2_with (refine wpList_mput rfl (.tmp 33) (.tmp 35) (.tmp 37) _ 31 31 rfl Try.underlying93 Try.underlying31 x.1 x.1 HFX.out.2.1 rfl rfl rfl ?_; intro w2 k1 k2 k3)
      go_roundw
      case rel => exact ⟨k + 1, by omega, by go_num, by rw [← HS.out]; exact HFX.out.turn k2 k1⟩
      case measure => simp [intOf]; omega
    · obtain rfl : n' = k := by omega
      have hF' : BkFr w wr (.slice A n c) (.slice A' n' c') (mapF (ids es) (lab (jsTo vs es 0))) := by
        rw [List.take_of_length_le (by rw [HL'.out]; exact Nat.le_refl _)] at hF
        exact hF
      have HF1 := Lib.hid hF'
      obtain ⟨g0, g1⟩ := hF.1.c2
      have hgl := hF.1.lt
      obtain ⟨wo, rfl⟩ : ∃ wo : World, wo = wr := ⟨_, rfl⟩
      clear hF hF'
      go_wp2_with fail
      -- each vertex
      go_loopw [42] (fun i wr => ∃ k : Nat, k ≤ n ∧ i = .int .i64 k ∧ BkFr w wr (.slice A n c) (.slice A' n' c') (mapF (ids es) (lab (jsTo vs es k)))) (fun i _ => n - (intOf i).toNat)
      case atStart => exact ⟨0, by omega, rfl, HF1.out⟩
      case round =>
        clear HF1 g0 g1 hgl
        obtain ⟨k, hk, rfl, hF⟩ := hrel
        obtain ⟨g0, g1⟩ := hF.1.c2
        have hgl := hF.1.lt
        by_cases hlt : k < n
        · obtain ⟨ad, v, rfl, hbl, hv, hvb, hc1⟩ := (h.below (hF.2.2.1.mono hB)).at_ hlt
          have HJ : Hid (jsTo vs es (k + 1) = (jTo (pmOf vs es v) v es (jsTo vs es k) es.length).2) := jsTo_succ hv
          have HJI : Hid (∀ e ∈ jsTo vs es k, e.2.1 ∈ ids es ∧ e.2.2 ∈ ids es) := jsTo_ids vs es k
          obtain ⟨js, hjs⟩ : ∃ js, jsTo vs es k = js := ⟨_, rfl⟩
          rw [hjs] at HJ HJI hF
          obtain ⟨gp, hgp⟩ : ∃ gp, wr.heap.size = gp := ⟨_, rfl⟩
          have HFP := Lib.hid (hF.alloc (.map #[] 0))
          have hMP := MapOf.made wr .u32 encI64
          rw [hgp] at hMP
          have HMP := Lib.hid hMP
          have hgl2 := hgl
          rw [hgp] at hgl2
          have hFs := hF.2.2.2
          have hbs := hF.2.2.1.size
          clear hv hF hMP hjs
          go_wp2_with fail
          refine (without_any B _ _ _ _ _ _ vs es v _ (h.below (HFP.out.2.2.1.mono hB)) (h'.below (HFP.out.2.2.1.mono hB)) (by omega) (by omega) (by have := HFP.out.2.2.1.size; omega)).mono ?_
          rintro e w2 ⟨A1, c1, A2, c2, rfl, k1, k2, k3⟩
          have HF2 := Lib.hid (HFP.out.on k3)
          have HM2 := Lib.hid (HMP.out.below k3 HMP.out.lt)
          have hz2 := k3.size
          simp only [World.size_alloc] at hz2
          have hlv := lessV_len vs v
          have hlv2 : (lessV vs v).length ≤ 64 := by have := HL.out; omega
          clear k3 HFP HMP g0 g1 hlv
          go_wp2_with fail
          refine (parts_any _ _ _ _ _ _ _ (lessV vs v) (lessE es v) _ k1 k2 (by omega) (Nat.le_refl _) (lessV_pair HF.out.up v) (lessE_ends HF.out.ends v)).mono ?_
          rintro e w3 ⟨r3, A3, c3, rfl, m1, m2⟩
          have HF3 := Lib.hid (HF2.out.on m2)
          have HM3 := Lib.hid (HM2.out.below m2 HM2.out.lt)
          have hz3 := m2.size
          have hpl := partsTo_len (lessV vs v) (lessE es v) (lessV vs v).length
          obtain ⟨ps, hps⟩ : ∃ ps, partsTo (lessV vs v) (lessE es v) (lessV vs v).length = ps := ⟨_, rfl⟩
          have HPS : Hid (psOf vs es v = ps) := hps
          rw [hps] at m1 hpl
          rw [hps]
          have hrd := m1.rd
          have hpb := hrd.bd
          obtain ⟨np, hnp⟩ : ∃ np, ps.length = np := ⟨_, rfl⟩
          have HNP := Lib.hid hnp
          rw [hnp] at hrd hpb hpl
          rw [hnp]
          have HRD := Lib.hid hrd
          have HROW : Hid (∀ l ∈ ps, l.length ≤ 64) := fun l hl => by
            rw [← hps] at hl
            unfold partsTo at hl
            obtain ⟨r, _, rfl⟩ := List.mem_map.1 hl
            exact Nat.le_trans (List.length_filter_le _ _) hlv2
          clear k1 k2 m1 m2 hps hnp hrd HF2 HM2
          go_wp2_with fail
          -- each part is told its place
          go_loopw [52] (fun i wr => ∃ j : Nat, j ≤ np ∧ i = .int .i64 j ∧ BkFr w wr (.slice (some ad) n c) (.slice A' n' c') (mapF (ids es) (lab js)) ∧ MapOf wr gp .u32 encI64 (pmTo ps j) ∧ RdUU wr w3.heap.size A3 np c3 ps ∧ w3.heap.size ≤ wr.heap.size) (fun i _ => np - (intOf i).toNat)
          case atStart => exact ⟨0, by omega, rfl, HF3.out, HM3.out, HRD.out, Nat.le_refl _⟩
          case round =>
            clear HF3 HM3 HRD
            obtain ⟨j, hj, rfl, hF, hM, hR, hz⟩ := hrel
            by_cases hlt2 : j < np
            · obtain ⟨ad2, l, Al, nl, cl, rfl, hbl2, hpl2, hcl, hrl⟩ := hR.at_ hlt2
              have HPL := Lib.hid hpl2
              have hll : l.length ≤ 64 := HROW.out l (List.mem_of_getElem? hpl2)
              have hnl := hrl.len
              have HPM : Hid (pmTo ps (j + 1) = pmRow j (pmTo ps j) l l.length) := pmTo_succ hpl2
              have HFJ := Lib.hid hF
              have HMJ := Lib.hid hM
              have HRJ := Lib.hid hR
              have HLJ := Lib.hid hrl
              obtain ⟨hlb1, hlb2⟩ := hrl.bd
              clear hpl2 hF hM hR hrl
              go_wp2_with fail
              obtain ⟨wp, rfl⟩ : ∃ wp : World, wp = wr := ⟨_, rfl⟩
              go_loopw [59] (fun i wr => ∃ q : Nat, q ≤ nl ∧ i = .int .i64 q ∧ BkFr w wr (.slice (some ad) n c) (.slice A' n' c') (mapF (ids es) (lab js)) ∧ MapOf wr gp .u32 encI64 (pmRow j (pmTo ps j) l q) ∧ RdUU wr w3.heap.size (some ad2) np c3 ps ∧ RdU wr w3.heap.size Al nl cl l ∧ w3.heap.size ≤ wr.heap.size) (fun i _ => nl - (intOf i).toNat)
              case atStart => exact ⟨0, by omega, rfl, HFJ.out, by simpa [pmRow] using HMJ.out, HRJ.out, HLJ.out, hz⟩
              case round =>
                clear HFJ HMJ HRJ HLJ hcl
                obtain ⟨q, hq, rfl, hF, hM, hR, hL, hz⟩ := hrel
                by_cases hlt3 : q < nl
                · obtain ⟨ad3, x, rfl, hbl3, hx, hxb, hcx⟩ := hL.at_ hlt3
                  have HS : Hid (pmRow j (pmTo ps j) l (q + 1) = mput (pmRow j (pmTo ps j) l q) x j) := pmRow_succ hx
                  have HFQ := Lib.hid hF
                  have HMQ := Lib.hid hM
                  have HRQ := Lib.hid hR
                  have HLQ := Lib.hid hL
                  clear hx hF hM hR hL
                  go_wp2_with (refine wpList_mput rfl (.tmp 63) (.tmp 64) (.tmp 65) _ 31 3 rfl Try.underlying80 Try.underlying31 x (j : Int) HMQ.out rfl rfl rfl ?_; intro w5 k1 k2 k3)
                  go_roundw
                  case rel => exact ⟨q + 1, by omega, by go_num, HFQ.out.grown k2 (fun g e => by injection e with e; omega), by rw [HS.out]; exact k1, HRQ.out.turned HMQ.out k2, HLQ.out.turned HMQ.out k2, by have := k2.size; omega⟩
                  case measure => simp [intOf]; omega
                · obtain rfl : nl = q := by omega
                  have HFQ := Lib.hid hF
                  have HMQ := Lib.hid hM
                  have HRQ := Lib.hid hR
                  clear hF hM hR hL
                  go_wp2_with fail
                  go_roundw
                  case rel => exact ⟨j + 1, by omega, by go_num, HFQ.out, by rw [HPM.out, hnl]; exact HMQ.out, HRQ.out, hz⟩
                  case measure => simp [intOf]; omega
            · obtain rfl : np = j := by omega
              have HPMV : Hid (pmOf vs es v = pmTo ps np) := by show pmTo _ _ = _; rw [HPS.out, HNP.out]
              have HFJ := Lib.hid (hF.alloc (.map #[] 0))
              have HMJ := Lib.hid (hM.alloc (.map #[] 0))
              obtain ⟨gf, hgf⟩ : ∃ gf, wr.heap.size = gf := ⟨_, rfl⟩
              have hMF := MapOf.made wr .i64 encU32
              rw [hgf] at hMF
              have HMF := Lib.hid hMF
              obtain ⟨g0, g1⟩ := hF.1.c2
              have hgl3 := hF.1.lt
              rw [hgf] at hgl3
              clear hF hM hR hMF
              go_wp2_with fail
              -- each edge at the vertex
              go_loopw [72] (fun i wr => ∃ q : Nat, q ≤ n' ∧ i = .int .i64 q ∧ BkFr w wr (.slice (some ad) n c) (.slice A' n' c') (mapF (ids es) (lab (jTo (pmTo ps np) v es js q).2)) ∧ MapOf wr gp .u32 encI64 (pmTo ps np) ∧ MapOf wr gf .i64 encU32 (jTo (pmTo ps np) v es js q).1) (fun i _ => n' - (intOf i).toNat)
              case atStart => exact ⟨0, by omega, rfl, by simpa [jTo] using HFJ.out, HMJ.out, by simpa [jTo] using HMF.out⟩
              case round =>
                clear HFJ HMJ HMF g0 g1 hgl3 hgl2 hgl
                obtain ⟨q, hq, rfl, hF, hMP, hMF⟩ := hrel
                obtain ⟨g0, g1⟩ := hF.1.c2
                have hgl := hF.1.lt
                by_cases hlt3 : q < n'
                · obtain ⟨ad3, x, rfl, hbl3, hx, hxb, hc1, hc2, hc3⟩ := (h'.below (hF.2.2.1.mono hB)).at_ hlt3
                  have HST : Hid (jTo (pmTo ps np) v es js (q + 1) = jStep (pmTo ps np) v (jTo (pmTo ps np) v es js q) x) := jTo_succ hx
                  have hxi : x.1 ∈ ids es := List.mem_map.2 ⟨x, List.mem_of_getElem? hx, rfl⟩
                  have HII : Hid (∀ i id, mget (jTo (pmTo ps np) v es js q).1 i = some id → id ∈ ids es) := (jTo_ids HJI.out q).1
                  have HFX := Lib.hid (hF.alloc (.cells #[.int .u32 x.1, .int .u32 x.2.1, .int .u32 x.2.2] 39))
                  have HPX := Lib.hid (hMP.alloc (.cells #[.int .u32 x.1, .int .u32 x.2.1, .int .u32 x.2.2] 39))
                  have HFF := Lib.hid (hMF.alloc (.cells #[.int .u32 x.1, .int .u32 x.2.1, .int .u32 x.2.2] 39))
                  have HZX := Lib.hid (Blk.new wr 39 #[.int .u32 x.1, .int .u32 x.2.1, .int .u32 x.2.2])
                  have hgpl := hMP.lt
                  have hgfl := hMF.lt
                  obtain ⟨S1, hS1⟩ : ∃ S1, (jTo (pmTo ps np) v es js q).1 = S1 := ⟨_, rfl⟩
                  obtain ⟨S2, hS2⟩ : ∃ S2, (jTo (pmTo ps np) v es js q).2 = S2 := ⟨_, rfl⟩
                  rw [hS1] at HFF HII
                  rw [hS2] at HFX
                  have HSS : Hid (jTo (pmTo ps np) v es js q = (S1, S2)) := by show _ = _; rw [← hS1, ← hS2]
                  clear hx hF hMP hMF hS1 hS2
                  go_wp2_with fail
                  rw [edV_lit]
                  refine (other_any x v _).mono ?_
                  rintro e w5 ⟨rfl, k5⟩
                  have HFY := Lib.hid (HFX.out.on k5)
                  have HPY := Lib.hid (HPX.out.below k5 HPX.out.lt)
                  have HFG := Lib.hid (HFF.out.below k5 HFF.out.lt)
                  have hZY := HZX.out.below k5 HZX.out.lt
                  have hz5 := k5.size
                  simp only [World.size_alloc] at hz5
                  obtain ⟨z0, z1, z2⟩ := hZY.c3
                  have hzl := hZY.lt
                  clear k5 hZY HFX HPX HFF HZX g0 g1
                  obtain ⟨ov, hov⟩ : ∃ ov, otherV x v = ov := ⟨_, rfl⟩
                  have HOV := Lib.hid hov
                  rw [hov]
                  clear hov
                  by_cases h0 : ov = 0
                  · have h0' : (ov == 0) = true := by simp [h0]
                    have H0 := Lib.hid h0
                    clear h0
                    go_wp2_with fail
                    go_roundw
                    case rel =>
                      have e1 : jTo (pmTo ps np) v es js (q + 1) = (S1, S2) := by rw [HST.out, HSS.out]; exact jStep_off (HOV.out.trans H0.out)
                      exact ⟨q + 1, by omega, by go_num, by rw [e1]; exact HFY.out, HPY.out, by rw [e1]; exact HFG.out⟩
                    case measure => simp [intOf]; omega
                  · have h0' : (ov == 0) = false := by simp [h0]
                    have H0 := Lib.hid h0
                    clear h0
                    obtain ⟨pi, hpi⟩ : ∃ pi, (mget (pmTo ps np) ov).getD 0 = pi := ⟨_, rfl⟩
                    have HPI : Hid ((mget (pmTo ps np) (otherV x v)).getD 0 = pi) := by show _ = _; rw [HOV.out]; exact hpi
                    have elk : ((mget (pmTo ps np) ov).map encI64).getD (.int .i64 0) = .int .i64 pi := by
                      rw [← hpi]; cases mget (pmTo ps np) ov <;> rfl
                    clear hpi
                    cases hfi : mget S1 pi with
                    | none =>
                      have HFI := Lib.hid hfi
                      have e1 : ((mget S1 pi).map encU32).getD (.int .u32 0) = .int .u32 0 := by rw [hfi]; rfl
                      have e2 : (mget S1 pi).isSome = false := by rw [hfi]; rfl
                      clear hfi
                      go_wp2_with (first
                        | (at_lookup; refine wpList_mlook rfl (.tmp 83) (.tmp 84) _ 31 3 rfl Try.underlying80 Try.underlying31 zeroI ov HPY.out rfl rfl ?_; rw [elk])
                        | (at_lookup; refine wpList_mlookOk rfl (.tmp 82) (.tmp 85) _ 3 31 rfl Try.underlying95 Try.underlying3 zeroU pi HFG.out rfl rfl ?_; rw [e1, e2])
                        | (at_lookup; refine wpList_mlook rfl (.tmp 96) (.tmp 97) _ 31 3 rfl Try.underlying80 Try.underlying31 zeroI ov HPY.out rfl rfl ?_; rw [elk])
                        | (refine wpList_mput rfl (.tmp 95) (.tmp 98) (.tmp 100) _ 3 31 rfl Try.underlying95 Try.underlying3 pi x.1 HFG.out rfl rfl rfl ?_; intro w6 k1 k2 k3))
                      go_roundw
                      case rel =>
                        have e3 : jTo (pmTo ps np) v es js (q + 1) = (mput S1 pi x.1, S2) := by
                          rw [HST.out, HSS.out]
                          have := jStep_new (pm := pmTo ps np) (v := v) (s := (S1, S2)) (x := x) (by rw [HOV.out]; exact H0.out) (by rw [HPI.out]; exact HFI.out)
                          rw [HPI.out] at this
                          exact this
                        exact ⟨q + 1, by omega, by go_num, by rw [e3]; exact HFY.out.grown k2 (fun g e => by injection e with e; omega), HPY.out.grown k2 (by simp; omega), by rw [e3]; exact k1⟩
                      case measure => simp [intOf]; omega
                    | some id =>
                      have HFI := Lib.hid hfi
                      have e1 : ((mget S1 pi).map encU32).getD (.int .u32 0) = .int .u32 id := by rw [hfi]; rfl
                      have e2 : (mget S1 pi).isSome = true := by rw [hfi]; rfl
                      have hidi : id ∈ ids es := HII.out _ _ hfi
                      clear hfi
                      go_wp2_with (first
                        | (at_lookup; refine wpList_mlook rfl (.tmp 83) (.tmp 84) _ 31 3 rfl Try.underlying80 Try.underlying31 zeroI ov HPY.out rfl rfl ?_; rw [elk])
                        | (at_lookup; refine wpList_mlookOk rfl (.tmp 82) (.tmp 85) _ 3 31 rfl Try.underlying95 Try.underlying3 zeroU pi HFG.out rfl rfl ?_; rw [e1, e2])
                        | (go_at_call 75; refine (join_any _ (ids es) (lab S2) id x.1 _ HFY.out.2.1 hidi hxi).mono ?_; rintro e w6 ⟨rfl, k1, k2⟩))
                      go_roundw
                      case rel =>
                        have e3 : jTo (pmTo ps np) v es js (q + 1) = (S1, S2 ++ [(0, id, x.1)]) := by
                          rw [HST.out, HSS.out]
                          exact jStep_old (pm := pmTo ps np) (v := v) (s := (S1, S2)) (x := x) (by rw [HOV.out]; exact H0.out) (by rw [HPI.out]; exact HFI.out)
                        rw [lab_join] at k1
                        exact ⟨q + 1, by omega, by go_num, by rw [e3]; exact HFY.out.turn k2 k1, HPY.out.grown k2 (by simp; omega), by rw [e3]; exact HFG.out.grown k2 (by simp; omega)⟩
                      case measure => simp [intOf]; omega
                · obtain rfl : n' = q := by omega
                  have HFQ : Hid (BkFr w wr (.slice (some ad) n c) (.slice A' n' c') (mapF (ids es) (lab (jsTo vs es (k + 1))))) := by
                    show BkFr _ _ _ _ _
                    rw [HJ.out, HPMV.out, HL'.out]; exact hF
                  clear hF hMP hMF
                  go_wp2_with fail
                  go_roundw
                  case rel => exact ⟨k + 1, by omega, by go_num, HFQ.out⟩
                  case measure => simp [intOf]; omega
        · obtain rfl : n = k := by omega
          have HFC : Hid (BkFr w wr (.slice A n c) (.slice A' n' c') (mapF (ids es) (clsL vs es))) := by
            show BkFr _ _ _ _ _
            unfold clsL joinsL
            rw [HL.out]; exact hF
          obtain ⟨ga, hga⟩ : ∃ ga, wr.heap.size = ga := ⟨_, rfl⟩
          have HFA := Lib.hid (HFC.out.alloc (.map #[] 0))
          have hMA := MapOf.made wr .u32 hdV
          rw [hga] at hMA
          have HMA := Lib.hid hMA
          have HRA : Hid (RowsAt (wr.alloc (.map #[] 0)) (w.heap.size + 2) [] (rowsTo vs es 0)) := RowsAt.nil_ _ _ _ (fun r => by simp [rowsTo])
          have hgas := hF.2.2.2
          have hgl2 := hgl
          rw [hga] at hgl2 hgas
          clear hF hMA HFC
          go_wp2_with fail
          -- each edge to its class
          go_loopw [107] (fun i wr => ∃ (k : Nat) (m : List (Int × Hdr)), k ≤ n' ∧ i = .int .i64 k ∧ BkFr w wr (.slice A n c) (.slice A' n' c') (mapF (ids es) (clsL vs es)) ∧ MapOf wr ga .u32 hdV m ∧ RowsAt wr (w.heap.size + 2) m (rowsTo vs es k) ∧ Hid (∀ r ∈ mkeys m, r ∈ rootsL vs es)) (fun i _ => n' - (intOf i).toNat)
          case atStart => exact ⟨0, [], by omega, rfl, HFA.out, HMA.out, HRA.out, fun r hr => by simp [mkeys] at hr⟩
          case round =>
            clear HFA HMA HRA g0 g1 hgl hgl2 hga
            obtain ⟨k, m, hk, rfl, hF, hM, hR, HKR⟩ := hrel
            obtain ⟨g0, g1⟩ := hF.1.c2
            have hgl := hF.1.lt
            by_cases hlt : k < n'
            · obtain ⟨ad, x, rfl, hbl, hx, hxb, hc1, hc2, hc3⟩ := (h'.below (hF.2.2.1.mono hB)).at_ hlt
              have HRS : Hid (rowsTo vs es (k + 1) = fun j => if j = clsL vs es x.1 then rowsTo vs es k (clsL vs es x.1) ++ [x] else rowsTo vs es k j) := rowsTo_succ hx
              have hxi : x.1 ∈ ids es := List.mem_map.2 ⟨x, List.mem_of_getElem? hx, rfl⟩
              have HROOT : Hid (clsL vs es x.1 ∈ rootsL vs es) := cls_root hxi
              obtain ⟨gx, hgx⟩ : ∃ gx, wr.heap.size = gx := ⟨_, rfl⟩
              have hgal := hM.lt
              rw [hgx] at hgal
              have HRLT := Lib.hid hF.2.2.2
              have HFX := Lib.hid (hF.alloc (.cells #[.int .u32 x.1, .int .u32 x.2.1, .int .u32 x.2.2] 39))
              have HMX := Lib.hid (hM.alloc (.cells #[.int .u32 x.1, .int .u32 x.2.1, .int .u32 x.2.2] 39))
              have hZ := Blk.new wr 39 #[.int .u32 x.1, .int .u32 x.2.1, .int .u32 x.2.2]
              rw [hgx] at hZ
              have HZX := Lib.hid hZ
              have HLKC : Hid (∀ W : World, BkFr w W (.slice A n c) (.slice (some ad) n' c') (mapF (ids es) (clsL vs es)) → (Instr.lookup 93 (.map (some (w.heap.size + 1))) (.int .u32 x.1) false).run Try.prog W = .ok (.int .u32 (clsL vs es x.1)) W) := fun W hW => by
                have := hW.2.1.lookup Try.underlying93 Try.underlying31 (zeroU _) x.1
                rw [mget_mapF, if_pos hxi] at this; exact this
              obtain ⟨r0, hown, hr0, hput⟩ := hR.at_ (clsL vs es x.1)
              have hlt0 := hown.lt
              rw [hgx] at hlt0
              have HLT0 := Lib.hid hlt0
              clear hlt0
              obtain ⟨⟨h0, h1, h2⟩, hhd⟩ : ∃ hd : Hdr, (mget m (clsL vs es x.1)).getD (none, 0, 0) = hd := ⟨_, rfl⟩
              rw [hhd] at hown
              have hlka : ∀ W : World, MapOf W ga .u32 hdV m → (Instr.lookup 99 (.map (some ga)) (.int .u32 (clsL vs es x.1)) false).run Try.prog W = .ok (.slice h0 h1 h2) W := fun W hW => by
                have := hW.lookup Try.underlying99 Try.underlying31 (zeroSE _) (clsL vs es x.1)
                have e : ((mget m (clsL vs es x.1)).map hdV).getD (.slice none 0 0) = .slice h0 h1 h2 := by
                  have e2 : hdV ((mget m (clsL vs es x.1)).getD (none, 0, 0)) = .slice h0 h1 h2 := by rw [hhd]; rfl
                  rw [← e2]; cases mget m (clsL vs es x.1) <;> rfl
                rw [e] at this; exact this
              have HLKA := Lib.hid (hlka (wr.alloc (.cells #[.int .u32 x.1, .int .u32 x.2.1, .int .u32 x.2.2] 39)).drew HMX.out.drew)
              have HLKB := Lib.hid (hlka ((wr.alloc (.cells #[.int .u32 x.1, .int .u32 x.2.1, .int .u32 x.2.2] 39)).alloc (.cells #[.int .u32 x.1, .int .u32 x.2.1, .int .u32 x.2.2] 39)).drew (HMX.out.alloc (.cells #[.int .u32 x.1, .int .u32 x.2.1, .int .u32 x.2.2] 39)).drew)
              clear hlka
              have HOWN := Lib.hid (hown.alloc (.cells #[.int .u32 x.1, .int .u32 x.2.1, .int .u32 x.2.2] 39))
              have HPUT := Lib.hid hput
              have HR0 := Lib.hid hr0
              clear hx hF hM hR hZ hown hput hr0 hhd
              go_wp2_with fail
              refine wp_region_held_drew (S := fun W => BkFr w W (.slice A n c) (.slice (some ad) n' c') (mapF (ids es) (clsL vs es)) ∧ Blk W gx 39 #[.int .u32 x.1, .int .u32 x.2.1, .int .u32 x.2.2]) (by kernel_rfl) ⟨HFX.out.drewN 1, HZX.out.drewN 1⟩ (fun hHeld => ?_)
              refine held_take 0 111 (.map (some ga)) (by simp only [List.getElem?_toArray, List.getElem?_cons_zero]; rfl) rfl rfl (by kernel_rfl) (by kernel_rfl) (by kernel_rfl) (fun _ _ _ _ h => h) (by intro W hW; go_simp) hHeld ?_
              simp only [List.setIfInBounds_toArray, List.set_cons_zero, List.set_cons_succ]
              refine held_take 1 112 (.map (some (w.heap.size + 1))) (by simp only [List.getElem?_toArray, List.getElem?_cons_succ, List.getElem?_cons_zero]; rfl) rfl rfl (by kernel_rfl) (by kernel_rfl) (by kernel_rfl) (fun _ _ _ _ h => h) (by intro W hW; go_simp) hHeld ?_
              simp only [List.setIfInBounds_toArray, List.set_cons_zero, List.set_cons_succ]
              refine held_take 2 113 (.pointer (some ⟨gx, 0, none⟩)) (by simp only [List.getElem?_toArray, List.getElem?_cons_succ, List.getElem?_cons_zero]; rfl) rfl rfl (by kernel_rfl) (by kernel_rfl) (by kernel_rfl) (fun _ _ _ _ h => h) (by intro W hW; go_simp) hHeld ?_
              simp only [List.setIfInBounds_toArray, List.set_cons_zero, List.set_cons_succ]
              refine held_take 3 114 (.int .u32 x.1) (by simp only [List.getElem?_toArray, List.getElem?_cons_succ, List.getElem?_cons_zero]; rfl) rfl rfl (by kernel_rfl) (by kernel_rfl) (by kernel_rfl) (fun _ _ _ _ h => h) (by intro W hW; obtain ⟨z1, z2, z3⟩ := hW.2.c3; go_simp) hHeld ?_
              simp only [List.setIfInBounds_toArray, List.set_cons_zero, List.set_cons_succ]
              refine held_take 4 115 (.int .u32 (clsL vs es x.1)) (by simp only [List.getElem?_toArray, List.getElem?_cons_succ, List.getElem?_cons_zero]; rfl) rfl rfl (by kernel_rfl) (by kernel_rfl) (by kernel_rfl) (fun _ _ _ _ h => h) (by intro W hW; have z := HLKC.out W hW.1; go_simp) hHeld ?_
              simp only [List.setIfInBounds_toArray, List.set_cons_zero, List.set_cons_succ]
              refine held_take 5 116 (.map (some ga)) (by simp only [List.getElem?_toArray, List.getElem?_cons_succ, List.getElem?_cons_zero]; rfl) rfl rfl (by kernel_rfl) (by kernel_rfl) (by kernel_rfl) (fun _ _ _ _ h => h) (by intro W hW; go_simp) hHeld ?_
              simp only [List.setIfInBounds_toArray, List.set_cons_zero, List.set_cons_succ]
              refine held_take 6 117 (.map (some (w.heap.size + 1))) (by simp only [List.getElem?_toArray, List.getElem?_cons_succ, List.getElem?_cons_zero]; rfl) rfl rfl (by kernel_rfl) (by kernel_rfl) (by kernel_rfl) (fun _ _ _ _ h => h) (by intro W hW; go_simp) hHeld ?_
              simp only [List.setIfInBounds_toArray, List.set_cons_zero, List.set_cons_succ]
              refine held_take 7 118 (.pointer (some ⟨gx, 0, none⟩)) (by simp only [List.getElem?_toArray, List.getElem?_cons_succ, List.getElem?_cons_zero]; rfl) rfl rfl (by kernel_rfl) (by kernel_rfl) (by kernel_rfl) (fun _ _ _ _ h => h) (by intro W hW; go_simp) hHeld ?_
              simp only [List.setIfInBounds_toArray, List.set_cons_zero, List.set_cons_succ]
              refine held_take 8 119 (.int .u32 x.1) (by simp only [List.getElem?_toArray, List.getElem?_cons_succ, List.getElem?_cons_zero]; rfl) rfl rfl (by kernel_rfl) (by kernel_rfl) (by kernel_rfl) (fun _ _ _ _ h => h) (by intro W hW; obtain ⟨z1, z2, z3⟩ := hW.2.c3; go_simp) hHeld ?_
              simp only [List.setIfInBounds_toArray, List.set_cons_zero, List.set_cons_succ]
              refine held_take 9 120 (.int .u32 (clsL vs es x.1)) (by simp only [List.getElem?_toArray, List.getElem?_cons_succ, List.getElem?_cons_zero]; rfl) rfl rfl (by kernel_rfl) (by kernel_rfl) (by kernel_rfl) (fun _ _ _ _ h => h) (by intro W hW; have z := HLKC.out W hW.1; go_simp) hHeld ?_
              simp only [List.setIfInBounds_toArray, List.set_cons_zero, List.set_cons_succ]
              refine held_take 11 122 (edV x) (by simp only [List.getElem?_toArray, List.getElem?_cons_succ, List.getElem?_cons_zero]; rfl) rfl rfl (by kernel_rfl) (by kernel_rfl) (by kernel_rfl) (fun _ _ _ _ h => h) (by intro W hW; obtain ⟨z1, z2, z3⟩ := hW.2.c3; unfold edV edC; go_simp) hHeld ?_
              simp only [List.setIfInBounds_toArray, List.set_cons_zero, List.set_cons_succ]
              refine held_fork 10 12 121 123 (.slice h0 h1 h2) (.slice (some ⟨gx + 1, 0, none⟩) 1 1) (w' := (wr.alloc (.cells #[.int .u32 x.1, .int .u32 x.2.1, .int .u32 x.2.2] 39)).drew.alloc (.cells #[.int .u32 x.1, .int .u32 x.2.1, .int .u32 x.2.2] 39)) (by simp only [List.getElem?_toArray, List.getElem?_cons_succ, List.getElem?_cons_zero]; rfl) (by simp only [List.getElem?_toArray, List.getElem?_cons_succ, List.getElem?_cons_zero]; rfl) rfl rfl (by decide) (by decide) rfl rfl rfl rfl (by kernel_rfl) (by kernel_rfl) (by kernel_rfl) (by have z := HLKA.out; go_simp) (by unfold edV edC; go_simp) (by have z := HLKB.out; go_simp) (by unfold edV edC; go_simp) hHeld ⟨(HFX.out.drewN 1).alloc _, Blk.alloc (HZX.out.drewN 1) _⟩ ?_
              simp only [List.setIfInBounds_toArray, List.set_cons_zero, List.set_cons_succ]
              have hrl : h1 ≤ 160 := by
                have e1 : (rowsTo vs es k (clsL vs es x.1)).length = h1 := HOWN.out.len
                have e2 : (rowsTo vs es k (clsL vs es x.1)).length ≤ (es.take k).length := List.length_filter_le _ _
                have e3 := List.length_take_le k es
                omega
              have HW1 : Hid (Below wr.heap.size wr ((wr.alloc (.cells #[.int .u32 x.1, .int .u32 x.2.1, .int .u32 x.2.2] 39)).drew.alloc (.cells #[.int .u32 x.1, .int .u32 x.2.1, .int .u32 x.2.2] 39))) := (((Below.refl wr.heap.size wr).alloc (Nat.le_refl _) (.cells #[.int .u32 x.1, .int .u32 x.2.1, .int .u32 x.2.2] 39)).drew).alloc (by simp) _
              refine held_append 13 124 (by simp only [List.getElem?_toArray, List.getElem?_cons_succ, List.getElem?_cons_zero]; rfl) rfl rfl (.tmp 121) (.tmp 123) (by kernel_rfl) rfl r0 h0 h1 h2 (rowsTo vs es k (clsL vs es x.1)) rfl ((HOWN.out.drewN 1).alloc (.cells #[.int .u32 x.1, .int .u32 x.2.1, .int .u32 x.2.2] 39)) (gx + 1) x rfl (by have := Blk.new (wr.alloc (.cells #[.int .u32 x.1, .int .u32 x.2.1, .int .u32 x.2.2] 39)).drew 39 #[.int .u32 x.1, .int .u32 x.2.1, .int .u32 x.2.2]; rw [show (wr.alloc (.cells #[.int .u32 x.1, .int .u32 x.2.1, .int .u32 x.2.2] 39)).drew.heap.size = gx + 1 by rw [← hgx]; simp] at this; exact this) hxb (by omega) ?_
              intro r3 A3 c3 w6 q1 q2 q3
              have HF6 := Lib.hid (((HFX.out.drewN 1).alloc (.cells #[.int .u32 x.1, .int .u32 x.2.1, .int .u32 x.2.2] 39)).grown q2 HR0.out)
              have hr0l := HOWN.out.lt
              have hgx0 : ∀ g, r0 = some g → g ≠ gx := fun g e => by have := HLT0.out g e; omega
              have HZ6 := Lib.hid ((Blk.alloc (HZX.out.drewN 1) (.cells #[.int .u32 x.1, .int .u32 x.2.1, .int .u32 x.2.2] 39)).grown q2 (fun e => hgx0 _ e.symm rfl))
              have HM6 := Lib.hid (((HMX.out.drewN 1).alloc (.cells #[.int .u32 x.1, .int .u32 x.2.1, .int .u32 x.2.2] 39)).grown q2 (own_map_ne HOWN.out.1.1 HMX.out))
              have HRW6 := Lib.hid (HPUT.out ((wr.alloc (.cells #[.int .u32 x.1, .int .u32 x.2.1, .int .u32 x.2.2] 39)).drew.alloc (.cells #[.int .u32 x.1, .int .u32 x.2.1, .int .u32 x.2.2] 39)) w6 r3 (A3, h1 + 1, c3) _ HW1.out q2 q3 q1 (by have := HRLT.out; omega))
              refine ⟨⟨HF6.out, HZ6.out⟩, ?_⟩
              simp only [List.setIfInBounds_toArray, List.set_cons_zero, List.set_cons_succ]
              obtain ⟨w7, hrun, u1, u2, u3⟩ := HM6.out.update Try.underlying99 Try.underlying31 (clsL vs es x.1) (A3, h1 + 1, c3)
              have HRUN := Lib.hid hrun
              have HF7 := Lib.hid (HF6.out.grown u2 (fun g e => by injection e with e; omega))
              have HZ7 := Lib.hid (HZ6.out.grown u2 (by intro e; injection e with e; omega))
              have HR7 := Lib.hid (HRW6.out.turned HM6.out u2)
              have HM7 := Lib.hid u1
              clear hrun u1 u2 u3 q1 q2 q3
              refine held_turn 14 (w' := w7) (by simp only [List.getElem?_toArray, List.getElem?_cons_succ, List.getElem?_cons_zero]; rfl) rfl (by kernel_rfl) (by have z := HRUN.out; unfold hdV at z; simp only at z; go_simp) ⟨HF7.out, HZ7.out⟩ ?_
              simp only [List.setIfInBounds_toArray, List.set_cons_zero, List.set_cons_succ, Act.put]
              refine wpAnyH_done (by kernel_rfl) ?_ _
              go_wp2_with fail
              go_roundw
              case rel =>
                refine ⟨k + 1, mput m (clsL vs es x.1) (A3, h1 + 1, c3), by omega, by go_num, HF7.out, HM7.out, by rw [HRS.out]; exact HR7.out, fun r hr => ?_⟩
                rw [mkeys_mput] at hr
                split at hr
                · exact HKR.out r hr
                · rcases List.mem_append.1 hr with hr | hr
                  · exact HKR.out r hr
                  · rw [List.mem_singleton.1 hr]; exact HROOT.out
              case measure => simp [intOf]; omega
            · obtain rfl : n' = k := by omega
              have hRB : RowsAt wr (w.heap.size + 2) m (blockL vs es) := by rw [← rowsTo_all vs es HL'.out]; exact hR
              have HRB := Lib.hid hRB
              have HMB := Lib.hid hM
              have HFB := Lib.hid hF
              have hgal := hM.lt
              obtain ⟨wo, rfl⟩ : ∃ wo : World, wo = wr := ⟨_, rfl⟩
              have HKN : Hid (mkeys m).Nodup := hM.nodup
              have HGAL : Hid (w.heap.size + 2 ≤ ga) := hgas
              clear hF hM hR hRB
              go_wp2_with (refine wpList_mrange rfl (.tmp 126) _ 31 23 rfl Try.underlying99 HMB.out rfl ?_; intro w2 k1 k2 k3)
              have HI := Lib.hid k1
              have HR2 := Lib.hid (HRB.out.kept k2 (fun g cur e => by cases e))
              have HB2 := Lib.hid (HFB.out.2.2.1.grown k2 HFB.out.2.2.1.size (by intro g hg; cases hg))
              obtain ⟨gi, hgi⟩ : ∃ gi, wo.heap.size = gi := ⟨_, rfl⟩
              rw [hgi] at HI hgal k3
              have hlen : (mkeys m).length = m.length := by simp [mkeys]
              clear k1 k2 HRB HMB HFB g0 g1 hgl
              rw [hgi]
              go_frame
              go_loopg [22] ((mkeys m).length + 1) (fun q s22 wr2 => ∃ (left done : List Int) (r : Option Nat) (A2 : Option Addr) (c2 : Nat), left.length < q ∧ left.Nodup ∧ Hid ((done ++ left).Perm (mkeys m)) ∧ s22 = .slice A2 done.length c2 ∧ OwnH wr2 r A2 done.length c2 (done.map (hdOf m)) ∧ (∀ g, r = some g → gi < g) ∧ Iter wr2 ga gi .u32 hdV m left ∧ RowsAt wr2 (w.heap.size + 2) m (blockL vs es) ∧ Below w.heap.size w wr2)
              case atStart => exact ⟨mkeys m, [], none, none, 0, by omega, HKN.out, by show List.Perm _ _; simp, rfl, OwnH.nil_ _ _, by simp, HI.out, HR2.out, HB2.out⟩
              case round =>
                clear HI HR2 HB2
                obtain ⟨left, done, r, A2, c2, hlq, hln, HPM, rfl, hO, hr, hI, hR, hB2⟩ := hrel
                have hdn : done.length ≤ 160 := by
                  have e1 := HPM.out.length_eq
                  have e2 : (mkeys m).length ≤ (rootsL vs es).length := List.Nodup.length_le_of_subset HKN.out HKR.out
                  have e3 : (rootsL vs es).length ≤ (ids es).length := List.length_filter_le _ _
                  have e4 : (ids es).length = n' := by unfold ids; rw [List.length_map]; exact HL'.out
                  rw [List.length_append] at e1
                  omega
                have HI := Lib.hid hI
                have HO := Lib.hid hO
                have HR := Lib.hid hR
                have HB2 := Lib.hid hB2
                have hil := hI.lt.1
                clear hI hO hR hB2
                go_wp2_with (first
                  | (at_next; refine wpList_mnext rfl (.tmp 127) rfl HI.out rfl (fun h0 => ?_) (fun y v w3 m1 m2 m3 m4 m5 m6 hen => ?_) <;> try simp only [hdV] at hen ⊢)
                  | (at_builtin; (refine appH1 rfl (.tmp 132) (.tmp 134) rfl _ r A2 _ c2 (done.map (hdOf m)) rfl ((HO.out.kept m5 (by cases hrr : r with | none => exact .inl rfl | some g => right; intro e; injection e with e; have := hr g hrr; omega)).alloc (.cells #[.slice v.1 v.2.1 v.2.2] 23)) wr.heap.size v rfl (by have := Blk.new w3 23 #[hdV v]; rw [m6] at this; exact this) (by omega) ?_; intro r3 A3 c3 w5 q1 q2 q3)))
                · -- all gone through
                  subst h0
                  have HPE : Hid (done.Perm (mkeys m)) := by have := HPM.out; rwa [List.append_nil] at this
                  refine (sortH _ r A2 _ c2 (w.heap.size + 2) m (blockL vs es) done HO.out HR.out (fun k hk => ⟨HPE.out.mem_iff.1 hk, block_head HF.out.eup (HKR.out k (HPE.out.mem_iff.1 hk))⟩) (HPE.out.nodup_iff.2 HKN.out) (by omega)).mono ?_
                  rintro e w6 ⟨rfl, ks, p1, p2, p3, p4, p5⟩
                  have HP1 := Lib.hid p1
                  have HP2 := Lib.hid p2
                  have HP3 := Lib.hid p3
                  have HP4 := Lib.hid p4
                  have HP5 := Lib.hid p5
                  clear p1 p2 p3 p4 p5
                  go_wp2_with fail
                  go_ret
                  have hks : ks = rootsL vs es := by
                    refine rise_eq HP2.out (HF.out.eup.sublist List.filter_sublist) fun x => ?_
                    rw [HP1.out.mem_iff, HPE.out.mem_iff]
                    refine ⟨HKR.out x, fun hx => ?_⟩
                    cases hmx : mget m x with
                    | some hd => rw [← mget_some, hmx]; rfl
                    | none =>
                      obtain ⟨_, _, h2, _⟩ := HR.out
                      have e1 := block_head HF.out.eup hx
                      rw [h2 x hmx] at e1
                      simp at e1
                  have hlk : done.length = (blocksL vs es).length := by unfold blocksL; rw [List.length_map, ← hks, HP1.out.length_eq]
                  have hrd := HP3.out.rdEE HP4.out (fun k hk => HPE.out.mem_iff.1 (HP1.out.mem_iff.1 hk))
                  rw [hks, hlk] at hrd
                  exact ⟨A2, c2, by rw [← hlk]; rfl, hrd, HB2.out.grown HP5.out HB2.out.size (fun g e => by have := hr g e; have := HGAL.out; omega)⟩
                · have hm3 : hdOf m y = v := by unfold hdOf; rw [m3]; rfl
                  have e1 : done.map (hdOf m) ++ [v] = (done ++ [y]).map (hdOf m) := by simp [hm3]
                  have e2 : done.length + 1 = (done ++ [y]).length := by simp
                  have hlen2 : (left.erase y).length < left.length := by rw [List.length_erase_of_mem m1]; have := List.length_pos_of_mem m1; omega
                  have hO3 := HO.out.kept m5 (by
                    cases hrr : r with
                    | none => exact .inl rfl
                    | some g => right; intro e; injection e with e; have := hr g hrr; omega)
                  have hR3 := HR.out.kept m5 (fun g cur e hh => by
                    injection e with e
                    subst e
                    obtain ⟨_, _, _, _, _, _, _, _, h4, _⟩ := HI.out
                    rw [h4] at hh; cases hh)
                  have hB3 := HB2.out.grown m5 HB2.out.size (fun g e => by injection e with e; have := HGAL.out; omega)
                  have hX3 := (Below.refl w3.heap.size w3).alloc (Nat.le_refl _) (.cells #[.slice v.1 v.2.1 v.2.2] 23)
                  have hI3 := (m4.alloc (.cells #[.slice v.1 v.2.1 v.2.2] 23)).grown q2 (fun e => by have := hr _ e.symm; omega) (fun e => by have := hr _ e.symm; omega)
                  have hR5 := (hR3.on hX3).kept q2 (fun g cur e hh => by
                    subst e
                    obtain ⟨cur2, h2⟩ := (hO3.alloc (.cells #[.slice v.1 v.2.1 v.2.2] 23)).1.block rfl
                    rw [hh] at h2
                    injection h2 with h2
                    injection h2 with _ h2
                    revert h2; decide)
                  have hB5 := (hB3.alloc hB3.size (.cells #[.slice v.1 v.2.1 v.2.2] 23)).grown q2 (by have := hB3.size; simp; omega) (fun g e => by have := hr g e; have := HGAL.out; omega)
                  rw [e1, e2] at q1
                  have hr3 : ∀ g, r3 = some g → gi < g := fun g e => by
                    rcases q3 with q3 | q3
                    · exact hr g (by rw [← q3, e])
                    · have a := q3 g e; simp at a; omega
                  have hperm : ((done ++ [y]) ++ left.erase y).Perm (mkeys m) := by
                    rw [List.append_assoc]
                    exact (List.Perm.append_left done (List.perm_cons_erase m1).symm).trans HPM.out
                  go_roundg left.length
                  case rel => exact ⟨left.erase y, done ++ [y], r3, A3, c3, hlen2, m2.erase y, hperm, by rw [e2], q1, hr3, hI3, hR5, hB5⟩
                  case measure => exact hlq
end Go.Proofs.Ytklmckbpbloonaa
