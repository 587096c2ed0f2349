/- Parts of the proof: GraphC. -/
import Derived.Test.YtklmckbpbloonaaBC21
import Derived.Shelf.Abstract
namespace Go.Proofs.Ytklmckbpbloonaa
open Go.RowKit

/-- How many of the first k vertices have no edges. -/
def aloneTo (vs : List Int) (es : List Edg) (k : Nat) : Nat := ((vs.take k).filter fun v => (endsL es v).isEmpty).length
def aloneN (vs : List Int) (es : List Edg) : Nat := (vs.filter fun v => (endsL es v).isEmpty).length
theorem aloneTo_all (vs : List Int) (es : List Edg) : aloneTo vs es vs.length = aloneN vs es := by unfold aloneTo aloneN; rw [List.take_length]
theorem aloneTo_succ {vs : List Int} {es : List Edg} {k : Nat} {v : Int} (h : vs[k]? = some v) : aloneTo vs es (k + 1) = aloneTo vs es k + if (endsL es v).isEmpty then 1 else 0 := by
  unfold aloneTo; rw [take_at h, List.filter_append, List.length_append]
  simp only [List.filter_cons, List.filter_nil]
  split <;> simp
theorem aloneTo_le (vs : List Int) (es : List Edg) (k : Nat) : aloneTo vs es k ≤ k := by
  unfold aloneTo
  have h1 := List.length_filter_le (fun v => (endsL es v).isEmpty) (vs.take k)
  have h2 := List.length_take_le k vs
  omega

set_option maxRecDepth 100000 in
set_option maxHeartbeats 1000000 in
theorem alone_any (B : Nat) (A A' : Option Addr) (n c n' c' : Nat) (vs : List Int) (es : List Edg) (w : World) (h : RdU w B A n c vs) (h' : RdE w B A' n' c' es) (hn' : n' ≤ 1000000) (hB : B ≤ w.heap.size) :
    Calls Try.prog 24 #[.agg #[.slice A n c, .slice A' n' c']] w fun e w' => e = .returned (.int .i64 (aloneTo vs es n)) ∧ Below w.heap.size w w' := by
  have HL' := Lib.hid h'.len
  obtain ⟨hn, hc⟩ := h.bd
  have HB := Lib.hid ((Below.refl w.heap.size w).alloc (Nat.le_refl _) (.cells #[.slice A n c, .slice A' n' c'] 25))
  have hG0 := Blk.new w 25 #[.slice A n c, .slice A' n' c']
  go_enter Try.func24, Try.ntmps24
  go_wp2
  go_loopw [3, 9] (fun m i wr => ∃ k : Nat, k ≤ n ∧ i = .int .i64 k ∧ m = .int .i64 (aloneTo vs es k) ∧ Below w.heap.size w wr ∧ Blk wr w.heap.size 25 #[.slice A n c, .slice A' n' c']) (fun _ i _ => n - (intOf i).toNat)
  case atStart => exact ⟨0, by omega, rfl, rfl, HB.out, hG0⟩
  case round =>
    obtain ⟨k, hk, rfl, rfl, hbr, hG⟩ := hrel
    clear hG0
    have hq := h.below (hbr.mono hB)
    have hq' := h'.below (hbr.mono hB)
    obtain ⟨hg0, hg1⟩ := hG.c2
    have hsz := hG.lt
    have hal := aloneTo_le vs es k
    by_cases hlt : k < n
    · obtain ⟨ad, x, rfl, hbl, hx, _, hc1⟩ := hq.at_ hlt
      have HS : Hid (aloneTo vs es (k + 1) = aloneTo vs es k + if (endsL es x).isEmpty then 1 else 0) := aloneTo_succ hx
      have HE : Hid (endsTo es x n' = endsL es x) := by show _ = _; rw [← HL'.out, endsTo_all]
      clear hx
      generalize aloneTo vs es k = S at hal HS ⊢
      by_cases he : (endsL es x).isEmpty = true
      · have he1 : (((endsTo es x n').length : Int) == 0) = true := by rw [HE.out]; simp at he; simp [he]
        have HEE := Lib.hid he
        clear he
        generalize hT : endsTo es x n' = T at *
        have HT := Lib.hid hT
        clear hT
        go_wp2_with (go_at_call 23; refine (ends_any B _ _ _ es _ _ _ hq' hn' (by omega)).mono ?_; rintro e w1 ⟨r1, A1, c1, rfl, k1, k2, k3⟩; rw [HT.out] at k1 ⊢)
        go_roundw
        case rel => exact ⟨k + 1, by omega, by go_num, by rw [HS.out, if_pos HEE.out]; go_num, hbr.trans (k2.mono hbr.size), hG.below k2 hsz⟩
        case measure => simp [intOf]; omega
      · have he1 : (((endsTo es x n').length : Int) == 0) = false := by rw [HE.out]; simp at he; simp [he]
        have HEE := Lib.hid he
        clear he
        generalize hT : endsTo es x n' = T at *
        have HT := Lib.hid hT
        clear hT
        go_wp2_with (go_at_call 23; refine (ends_any B _ _ _ es _ _ _ hq' hn' (by omega)).mono ?_; rintro e w1 ⟨r1, A1, c1, rfl, k1, k2, k3⟩; rw [HT.out] at k1 ⊢)
        go_roundw
        case rel => exact ⟨k + 1, by omega, by go_num, by rw [HS.out, if_neg HEE.out]; go_num, hbr.trans (k2.mono hbr.size), hG.below k2 hsz⟩
        case measure => simp [intOf]; omega
    · obtain rfl : k = n := by omega
      go_wp2
      go_ret
      exact ⟨rfl, hbr⟩

/-- The first place at which p holds. -/
def fidx {α : Type} (p : α → Bool) (l : List α) : Int := match l.findIdx? p with | some i => (i : Int) | none => -1
/-- The place of the edge with a number. -/
def edx (es : List Edg) (id : Int) : Int := idx (es.map (·.1)) id

set_option maxRecDepth 100000 in
set_option maxHeartbeats 400000 in
theorem edge1_any (g : Nat) (e : Edg) (id : Int) (w : World) (hg : w.cell? ⟨g, 0, none⟩ = some (.int .u32 id)) (hl : g < w.heap.size) :
    Calls Try.prog 61 #[.agg #[.int .u32 e.1, .int .u32 e.2.1, .int .u32 e.2.2], .pointer (some ⟨g, 0, none⟩)] w fun r w' => r = .returned (.bool (e.1 == id)) ∧ Below w.heap.size w w' := by
  go_enter Try.func61, Try.ntmps61
  go_wp2
  go_ret
  exact ⟨rfl, (Below.refl _ _).alloc (Nat.le_refl _) _⟩

set_option maxRecDepth 100000 in
set_option maxHeartbeats 1000000 in
/-- slices.IndexFunc over edges, whatever function it is handed that tells of each edge what p does, and leaves the old memory alone. -/
theorem indexFuncE (B : Nat) (A : Option Addr) (n c : Nat) (es : List Edg) (p : Edg → Bool) (f : Nat) (caps : Array Value) (w : World) (h : RdE w B A n c es) (hB : B ≤ w.heap.size)
    (he : ∀ args W, (callFunc f args).run Try.prog W = .ok (.enter f args) W)
    (hf : ∀ (e : Edg) (W : World), Below w.heap.size w W → e ∈ es → Calls Try.prog f (#[.agg #[.int .u32 e.1, .int .u32 e.2.1, .int .u32 e.2.2]] ++ caps) W fun r w' => r = .returned (.bool (p e)) ∧ Below W.heap.size W w') :
    Calls Try.prog 60 #[.slice A n c, .func (.func f) #[] caps] w fun r w' => r = .returned (.int .i64 (fidx p es)) ∧ Below w.heap.size w w' := by
  have HL := Lib.hid h.len
  obtain ⟨hn, hc⟩ := h.bd
  have HF := Lib.hid hf
  clear hf
  go_enter Try.func60, Try.ntmps60
  go_wp2
  go_loopw [8] (fun i wr => ∃ k : Nat, k ≤ n ∧ i = .int .i64 k ∧ Below w.heap.size w wr ∧ Hid (∀ j e, j < k → es[j]? = some e → p e = false)) (fun i _ => n - (intOf i).toNat)
  case atStart => exact ⟨0, by omega, rfl, Below.refl _ _, fun j e hj => absurd hj (by omega)⟩
  case round =>
    obtain ⟨k, hk, rfl, hbr, HJ⟩ := hrel
    have hq := h.below (hbr.mono hB)
    by_cases hlt : k < n
    · obtain ⟨ad, x, rfl, hbl, hx, _, hc1, hc2, hc3⟩ := hq.at_ hlt
      have HX := Lib.hid hx
      clear hx
      have hmem : x ∈ es := List.mem_of_getElem? HX.out
      cases hp : p x
      · have HP := Lib.hid hp
        clear hp
        go_wp2_with (show Calls Try.prog f _ _ _; refine (HF.out x _ hbr hmem).mono ?_; rintro r w1 ⟨rfl, hb1⟩; rw [HP.out])
        go_roundw
        case rel =>
          refine ⟨k + 1, by omega, by go_num, hbr.trans (hb1.mono hbr.size), fun j e hj hje => ?_⟩
          by_cases ejk : j = k
          · subst ejk; rw [HX.out] at hje; injection hje with hje; subst hje; exact HP.out
          · exact HJ.out j e (by omega) hje
        case measure => simp [intOf]; omega
      · have HP := Lib.hid hp
        clear hp
        go_wp2_with (show Calls Try.prog f _ _ _; refine (HF.out x _ hbr hmem).mono ?_; rintro r w1 ⟨rfl, hb1⟩; rw [HP.out])
        go_ret
        refine ⟨ret_int ?_, hbr.trans (hb1.mono hbr.size)⟩
        have hfi : es.findIdx? p = some k := by
          obtain ⟨hkl, hke⟩ := List.getElem?_eq_some_iff.1 HX.out
          rw [List.findIdx?_eq_some_iff_getElem]
          refine ⟨hkl, by rw [hke]; exact HP.out, fun j hj => ?_⟩
          have := HJ.out j es[j] hj (List.getElem?_eq_getElem (by omega))
          simp [this]
        unfold fidx; rw [hfi]
    · obtain rfl : k = n := by omega
      go_wp2
      go_ret
      refine ⟨ret_int ?_, hbr⟩
      have hfi : es.findIdx? p = none := by
        rw [List.findIdx?_eq_none_iff]
        intro e he
        obtain ⟨j, hj, e1⟩ := List.mem_iff_getElem.1 he
        exact HJ.out j e (by have := HL.out; omega) (by rw [List.getElem?_eq_getElem hj, e1])
      unfold fidx; rw [hfi]

theorem edx_eq (es : List Edg) (id : Int) : fidx (fun e => e.1 == id) es = edx es id := by
  unfold edx fidx
  cases h : es.findIdx? (fun e => e.1 == id) with
  | none =>
    rw [List.findIdx?_eq_none_iff] at h
    refine (idx_miss fun j hj e => ?_).symm
    rw [List.getElem?_map] at e
    obtain ⟨x, hx, e2⟩ := Option.map_eq_some_iff.1 e
    have := h x (List.mem_of_getElem? hx)
    simp [e2] at this
  | some i =>
    rw [List.findIdx?_eq_some_iff_getElem] at h
    obtain ⟨hi, h1, h2⟩ := h
    refine (idx_hit (fun j hj e => ?_) ?_).symm
    · have := h2 j hj
      rw [List.getElem?_map, List.getElem?_eq_getElem (by omega)] at e
      simp at e this
      exact this e
    · rw [List.getElem?_map, List.getElem?_eq_getElem hi]
      simp at h1
      simp [h1]

set_option maxRecDepth 100000 in
set_option maxHeartbeats 400000 in
theorem edge_any (B : Nat) (A : Option Addr) (n c : Nat) (es : List Edg) (v0 : Value) (id : Int) (w : World) (h : RdE w B A n c es) (hB : B ≤ w.heap.size) :
    Calls Try.prog 20 #[.agg #[v0, .slice A n c], .int .u32 id] w fun e w' => e = .returned (.int .i64 (edx es id)) ∧ Below w.heap.size w w' := by
  have hb : Below w.heap.size w ((w.alloc (.cells #[v0, .slice A n c] 25)).alloc (.cells #[.int .u32 id] 31)) := ((Below.refl _ _).alloc (Nat.le_refl _) _).alloc (by simp) _
  have hX := Blk.new (w.alloc (.cells #[v0, .slice A n c] 25)) 31 #[.int .u32 id]
  simp only [World.size_alloc] at hX
  have HR := Lib.hid (h.below (hb.mono hB))
  have HB := Lib.hid hb
  have HX := Lib.hid hX
  have hent : ∀ args W, (callFunc 61 args).run Try.prog W = .ok (.enter 61 args) W := enters_of Try.func61 (by kernel_rfl) rfl
  have HEN := Lib.hid hent
  have hfn : ∀ (e : Edg) (W : World), Below ((w.alloc (.cells #[v0, .slice A n c] 25)).alloc (.cells #[.int .u32 id] 31)).heap.size ((w.alloc (.cells #[v0, .slice A n c] 25)).alloc (.cells #[.int .u32 id] 31)) W → e ∈ es →
      Calls Try.prog 61 (#[.agg #[.int .u32 e.1, .int .u32 e.2.1, .int .u32 e.2.2]] ++ #[.pointer (some ⟨w.heap.size + 1, 0, none⟩)]) W fun r w' => r = .returned (.bool (e.1 == id)) ∧ Below W.heap.size W w' := by
    intro e W hW _
    rw [List.append_toArray]
    exact edge1_any _ e id W ((HX.out.below hW (by simp)).c1) (by have := hW.size; simp at this; omega)
  have HFN := Lib.hid hfn
  clear hb hX hent hfn
  go_enter Try.func20, Try.ntmps20
  go_wp2_with (go_at_call 60; refine (indexFuncE B _ _ _ es (fun e => e.1 == id) 61 _ _ HR.out (by simp; omega) HEN.out HFN.out).mono ?_; rintro r w1 ⟨rfl, hb1⟩)
  go_ret
  exact ⟨ret_int (edx_eq es id), HB.out.trans (hb1.mono (by simp; omega))⟩

set_option maxRecDepth 100000 in
set_option maxHeartbeats 400000 in
theorem rfinde_any (B : Nat) (A : Option Addr) (n c : Nat) (es : List Edg) (v0 : Value) (id : Int) (w : World) (h : RdE w B A n c es) (hB : B ≤ w.heap.size) :
    Calls Try.prog 21 #[.agg #[v0, .slice A n c], .int .u32 id] w fun e w' => e = .returned (.int .i64 (edx es id)) ∧ Below w.heap.size w w' := by
  have HL := Lib.hid h.len
  obtain ⟨hn, hc⟩ := h.bd
  have HB := Lib.hid ((Below.refl w.heap.size w).alloc (Nat.le_refl _) (.cells #[v0, .slice A n c] 25))
  go_enter Try.func21, Try.ntmps21
  go_wp2
  go_loopw [10] (fun i wr => ∃ k : Nat, k ≤ n ∧ i = .int .i64 k ∧ Below w.heap.size w wr ∧ Hid (∀ j, j < k → (es.map (·.1))[j]? ≠ some id)) (fun i _ => n - (intOf i).toNat)
  case atStart => exact ⟨0, by omega, rfl, HB.out, fun j hj => absurd hj (by omega)⟩
  case round =>
    obtain ⟨k, hk, rfl, hbr, HJ⟩ := hrel
    have hq := h.below (hbr.mono hB)
    by_cases hlt : k < n
    · obtain ⟨ad, x, rfl, hbl, hx, _, hc1, hc2, hc3⟩ := hq.at_ hlt
      have HX := Lib.hid hx
      have HBX := Lib.hid (hbr.alloc hbr.size (.cells #[.int .u32 x.1, .int .u32 x.2.1, .int .u32 x.2.2] 39))
      clear hx
      by_cases he : x.1 = id
      · have he' : (x.1 == id) = true := by simp [he]
        have HE := Lib.hid he
        clear he
        go_wp2
        go_ret
        exact ⟨ret_int (idx_hit HJ.out (by rw [List.getElem?_map, HX.out]; simp [HE.out])).symm, HBX.out⟩
      · have he' : (x.1 == id) = false := by simp [he]
        have HE := Lib.hid he
        clear he
        go_wp2
        go_roundw
        case rel =>
          refine ⟨k + 1, by omega, by go_num, HBX.out, fun j hj => ?_⟩
          by_cases e : j = k
          · subst e; rw [List.getElem?_map, HX.out]; intro e; simp at e; exact HE.out e
          · exact HJ.out j (by omega)
        case measure => simp [intOf]; omega
    · go_wp2
      go_ret
      exact ⟨ret_int (idx_miss fun j hj => HJ.out j (by have := HL.out; rw [List.length_map] at hj; omega)).symm, hbr⟩
end Go.Proofs.Ytklmckbpbloonaa
