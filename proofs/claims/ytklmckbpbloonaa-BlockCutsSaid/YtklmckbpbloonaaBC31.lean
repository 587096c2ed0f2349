/- Parts of the proof: BkA. -/
import Derived.Test.YtklmckbpbloonaaBC7
import Derived.Test.YtklmckbpbloonaaBC9
import Derived.Test.YtklmckbpbloonaaBC30
import Derived.Shelf.SlicesE.DeleteFunc
import Derived.Ground.SlgfProg
namespace Go.Proofs.Ytklmckbpbloonaa
open Go.Sort Go.RowKit Go.Shelf

def dfL_ren : Go.Shelf.Ren := ⟨fun | 10 => 96 | 6 => 117 | n => n, fun | 22 => 22 | 23 => 31 | 25 => 74 | 3 => 3 | 4 => 4 | 0 => 0 | n => n, fun | n => n⟩
theorem dfL : Go.Proofs.SlLaysH.n10 Try.prog dfL_ren := {
  mixed := by kernel_rfl
  f6 := ⟨Try.f117.name, by decide, Try.func117.trans (congrArg some (by kernel_rfl))⟩
  f10 := ⟨Try.f96.name, by decide, Try.func96.trans (congrArg some (by kernel_rfl))⟩
  t0 := Try.underlying0
  a0 := Try.isAgg0
  z0 := Try.sizeOf0
  v0 := Try.zeroValue0
  t3 := Try.underlying3
  a3 := Try.isAgg3
  z3 := Try.sizeOf3
  v3 := Try.zeroValue3
  t4 := Try.underlying4
  a4 := Try.isAgg4
  z4 := Try.sizeOf4
  v4 := Try.zeroValue4
  t22 := Try.underlying22
  a22 := Try.isAgg22
  z22 := Try.sizeOf22
  v22 := Try.zeroValue22
  a23 := Try.isAgg31
  z23 := Try.sizeOf31
  t25 := Try.underlying74
  a25 := Try.isAgg74
  z25 := Try.sizeOf74
  v25 := Try.zeroValue74 }

def otherV (x : Edg) (v : Int) : Int := if v = x.2.1 then x.2.2 else if v = x.2.2 then x.2.1 else 0
def offV (v : Int) (x : Edg) : Bool := (x.2.1 != v) && (x.2.2 != v)
def lessV (vs : List Int) (v : Int) : List Int := vs.filter fun x => !(x == v)
def lessE (es : List Edg) (v : Int) : List Edg := es.filter (offV v)
set_option maxRecDepth 100000 in
theorem other_any (x : Edg) (v : Int) (w : World) : Calls Try.prog 74 #[edV x, .int .u32 v] w fun e w' => e = .returned (.int .u32 (otherV x v)) ∧ Below w.heap.size w w' := by
  have HB := Lib.hid ((Below.refl w.heap.size w).alloc (Nat.le_refl _) (.cells #[.int .u32 x.1, .int .u32 x.2.1, .int .u32 x.2.2] 39))
  rw [← edV_lit]
  by_cases h1 : v = x.2.1
  · have h1' : (v == x.2.1) = true := by simp [h1]
    have H1 := Lib.hid h1
    clear h1
    go_enter Try.func74, Try.ntmps74
    go_wp2
    go_ret
    exact ⟨ret_int (by unfold otherV; rw [if_pos H1.out]), HB.out⟩
  · have h1' : (v == x.2.1) = false := by simp [h1]
    have H1 := Lib.hid h1
    clear h1
    by_cases h2 : v = x.2.2
    · have h2' : (v == x.2.2) = true := by simp [h2]
      have H2 := Lib.hid h2
      clear h2
      go_enter Try.func74, Try.ntmps74
      go_wp2
      go_ret
      exact ⟨ret_int (by unfold otherV; rw [if_neg H1.out, if_pos H2.out]), HB.out⟩
    · have h2' : (v == x.2.2) = false := by simp [h2]
      have H2 := Lib.hid h2
      clear h2
      go_enter Try.func74, Try.ntmps74
      go_wp2
      go_ret
      exact ⟨ret_int (by unfold otherV; rw [if_neg H1.out, if_neg H2.out]), HB.out⟩
set_option maxRecDepth 100000 in
theorem without1 (g : Nat) (x : Edg) (v : Int) (w : World) (hg : w.cell? ⟨g, 0, none⟩ = some (.int .u32 v)) (hl : g < w.heap.size) :
    Calls Try.prog 103 #[.agg #[.int .u32 x.1, .int .u32 x.2.1, .int .u32 x.2.2], .pointer (some ⟨g, 0, none⟩)] w fun r w' => r = .returned (.bool (offV v x)) ∧ Below w.heap.size w w' := by
  have HB := Lib.hid ((Below.refl w.heap.size w).alloc (Nat.le_refl _) (.cells #[.int .u32 x.1, .int .u32 x.2.1, .int .u32 x.2.2] 39))
  cases h1 : (x.2.1 != v)
  · have H1 := Lib.hid h1
    go_enter Try.func103, Try.ntmps103
    go_wp2
    go_ret
    exact ⟨ret_bool (by unfold offV; rw [H1.out]; rfl), HB.out⟩
  · have H1 := Lib.hid h1
    go_enter Try.func103, Try.ntmps103
    go_wp2
    go_ret
    exact ⟨ret_bool (by unfold offV; rw [H1.out]; rfl), HB.out⟩
set_option maxRecDepth 100000 in
theorem without2 (g : Nat) (x v : Int) (w : World) (hg : w.cell? ⟨g, 0, none⟩ = some (.int .u32 v)) :
    FnGives Try.prog 104 #[.pointer (some ⟨g, 0, none⟩)] #[.int .u32 x] (.bool (x == v)) w := by
  show Calls Try.prog 104 #[.int .u32 x, .pointer (some ⟨g, 0, none⟩)] w _
  go_enter Try.func104, Try.ntmps104
  go_wp2
  go_ret
  exact ⟨rfl, 0, rfl⟩
set_option maxRecDepth 100000 in
theorem indexFuncU0 (A : Option Addr) (c : Nat) (fv : Value) (w : World) : Calls Try.prog 117 #[.slice A 0 c, fv] w fun e w' => e = .returned (.int .i64 (-1)) ∧ w' = w := by
  go_enter Try.func117, Try.ntmps117
  go_wp2
  go_loop [8] (fun i => i = .int .i64 0) (fun _ => 0)
  case atStart => rfl
  case round =>
    obtain rfl := hrel
    go_wp2
    go_ret
    exact ⟨rfl, rfl⟩
set_option maxRecDepth 100000 in
theorem deleteU0 (A : Option Addr) (c : Nat) (fv : Value) (w : World) : Calls Try.prog 96 #[.slice A 0 c, fv] w fun e w' => e = .returned (.slice A 0 c) ∧ w' = w := by
  go_enter Try.func96, Try.ntmps96
  go_wp2_with (go_at_call 117; refine (indexFuncU0 _ _ _ _).mono ?_; rintro e w' ⟨rfl, rfl⟩)
  go_ret
  exact ⟨rfl, rfl⟩
/-- slices.DeleteFunc of one number, at a row of the call's own. -/
theorem deleteU (w : World) (r : Option Nat) (A : Option Addr) (n c : Nat) (xs : List Int) (v : Int) (gc : Nat) (h : OwnU w r A n c xs) (hg : w.cell? ⟨gc, 0, none⟩ = some (.int .u32 v)) (hne : r ≠ some gc) :
    Calls Try.prog 96 #[.slice A n c, .func (.func 104) #[] #[.pointer (some ⟨gc, 0, none⟩)]] w fun e w' => e = .returned (.slice A (lessV xs v).length c) ∧ OwnU w' r A (lessV xs v).length c (lessV xs v) ∧ w.grownBy w' r := by
  have hl := h.len
  by_cases h0 : n = 0
  · subst h0
    have he : xs = [] := List.eq_nil_of_length_eq_zero hl
    subst he
    refine (deleteU0 A c _ w).mono ?_
    rintro e w' ⟨rfl, rfl⟩
    exact ⟨rfl, h, World.grownBy.refl _ _⟩
  · have hbd := h.rd.bd
    cases r with
    | none => have := h.1.1.cap0 rfl; omega
    | some g =>
      obtain rfl : A = some ⟨g, 0, none⟩ := h.1.1.2.2.2.1
      have hgl : gc < w.heap.size := by
        rcases Nat.lt_or_ge gc w.heap.size with hlt | hge
        · exact hlt
        · simp [World.cell?, Array.getElem?_eq_none hge] at hg
      have hgg : gc ≠ g := fun e => hne (by rw [e])
      have eg : ∀ args w, (callFunc 104 args).run Try.prog w = .ok (.enter 104 args) w := enters_of Try.func104 (by kernel_rfl) rfl
      have hC := AnyE.slices_DeleteFunc dfL (Value.int .u32) (fun _ => rfl) (fun x => x == v) 104 #[.pointer (some ⟨gc, 0, none⟩)] eg 0 zeroU32 g 0 c xs.toArray w
        (fun W x hb => without2 gc x v W ((hb.cell (p := ⟨gc, 0, none⟩) hgl).trans hg))
        (fun n os dk x _ => without2 gc x v _ (by
          unfold sortWorld
          rw [cell?_grow _ _ _ (by show gc < (putRow _ _ _ _ _).heap.size; rw [size_putRow]; exact hgl), cell?_putRow_other _ _ g 0 _ _ (Or.inl hgg)]
          exact hg))
        (own_holds h) (by simp; omega) (by simp; omega)
      rw [show xs.toArray.size = n by simpa using hl] at hC
      refine hC.mono ?_
      rintro e w' ⟨rfl, q, rfl⟩
      have hle : (lessV xs v).length ≤ n := by have := List.length_filter_le (fun x => !(x == v)) xs; unfold lessV; omega
      have hu : u32s (lessV xs v ++ List.replicate (n - (lessV xs v).length) 0) := by
        intro x hx
        rcases List.mem_append.1 hx with hx | hx
        · exact h.2 x (List.mem_filter.1 hx).1
        · rw [(List.mem_replicate.1 hx).2]; omega
      obtain ⟨k1, k2⟩ := own_putRow (zs := lessV xs v ++ List.replicate (n - (lessV xs v).length) 0) h (by simp; omega) hu q
      refine ⟨rfl, ⟨⟨?_, fun e => by cases e⟩, fun x hx => h.2 x (List.mem_filter.1 hx).1⟩, k2⟩
      have := k1.1.1.cutTo (m := (lessV xs v).length) (by omega)
      rwa [show (U (lessV xs v ++ List.replicate (n - (lessV xs v).length) 0)).take ((lessV xs v).length * 1) = U (lessV xs v) by rw [U_append, Nat.mul_one, List.take_left' (U_len _)]] at this
theorem lessE_kept (es : List Edg) (v : Int) {n : Nat} (hn : es.length = n) : keptTo es (offV v) n = lessE es v := keptTo_all es (offV v) hn
set_option maxRecDepth 100000 in
set_option maxHeartbeats 2000000 in
theorem without_any (B : Nat) (A A' : Option Addr) (n c n' c' : Nat) (vs : List Int) (es : List Edg) (v : Int) (w : World) (h : RdU w B A n c vs) (h' : RdE w B A' n' c' es) (hn : n ≤ 1000000) (hn' : n' ≤ 1000000) (hB : B ≤ w.heap.size) :
    Calls Try.prog 73 #[.agg #[.slice A n c, .slice A' n' c'], .int .u32 v] w fun e w' => ∃ A1 c1 A2 c2, e = .returned (.agg #[.slice A1 (lessV vs v).length c1, .slice A2 (lessE es v).length c2]) ∧
      RdU w' w'.heap.size A1 (lessV vs v).length c1 (lessV vs v) ∧ RdE w' w'.heap.size A2 (lessE es v).length c2 (lessE es v) ∧ Below w.heap.size w w' := by
  have HL' := Lib.hid h'.len
  have HB0 := Lib.hid ((((Below.refl w.heap.size w).alloc (Nat.le_refl _) (.cells #[.slice A n c, .slice A' n' c'] 25)).alloc (by simp) (.cells #[.int .u32 v] 31)).alloc (by simp; omega) (.cells #[.slice none 0 0, .slice none 0 0] 25))
  have hV0 := (Blk.new (w.alloc (.cells #[.slice A n c, .slice A' n' c'] 25)) 31 #[.int .u32 v]).alloc (.cells #[.slice none 0 0, .slice none 0 0] 25)
  have hR0 := Blk.new ((w.alloc (.cells #[.slice A n c, .slice A' n' c'] 25)).alloc (.cells #[.int .u32 v] 31)) 25 #[.slice none 0 0, .slice none 0 0]
  simp only [World.size_alloc] at hV0 hR0
  have HV0 := Lib.hid hV0
  have HR0 := Lib.hid hR0
  have he : ∀ args W, (callFunc 103 args).run Try.prog W = .ok (.enter 103 args) W := enters_of Try.func103 (by kernel_rfl) rfl
  have HE := Lib.hid he
  clear hV0 hR0 he
  go_enter Try.func73, Try.ntmps73
  go_wp2_with fail
  refine (keep2_any B _ _ _ _ _ _ vs es (offV v) 103 _ _ (h.below (HB0.out.mono hB)) (h'.below (HB0.out.mono hB)) hn hn' (by have := HB0.out.size; omega) HE.out ?_).mono ?_
  · intro e W hW _
    have hc := HV0.out.below hW HV0.out.lt
    rw [List.append_toArray]
    exact without1 (w.heap.size + 1) e v W hc.c1 hc.lt
  rintro e w1 ⟨r1, A1, c1, r2, A2, c2, rfl, k1, k2, k3, k4, k5⟩
  have hz := k3.size
  simp only [World.size_alloc] at hz
  have HV1 := Lib.hid ((HV0.out.below k3 HV0.out.lt).alloc (.cells #[.slice A1 n c1, .slice A2 (keptN es (offV v) n') c2] 25))
  have HR1 := Lib.hid ((HR0.out.below k3 HR0.out.lt).alloc (.cells #[.slice A1 n c1, .slice A2 (keptN es (offV v) n') c2] 25))
  have HU1 := Lib.hid (k1.alloc (.cells #[.slice A1 n c1, .slice A2 (keptN es (offV v) n') c2] 25))
  have HE1 := Lib.hid (k2.alloc (.cells #[.slice A1 n c1, .slice A2 (keptN es (offV v) n') c2] 25))
  have HG1 := Lib.hid (Blk.new w1 25 #[.slice A1 n c1, .slice A2 (keptN es (offV v) n') c2])
  have HB1 := Lib.hid ((HB0.out.trans (k3.mono (by simp; omega))).alloc (by have := k3.size; simp at this; omega) (.cells #[.slice A1 n c1, .slice A2 (keptN es (offV v) n') c2] 25))
  have HK4 := Lib.hid k4
  have HK5 := Lib.hid k5
  have hul := k1.lt
  have HUL := Lib.hid hul
  have HEL := Lib.hid k2.lt
  clear k1 k2 k3 k4 k5 HV0 HR0 HB0 hul
  go_wp2_with fail
  refine (deleteU _ r1 _ _ _ vs v _ HU1.out HV1.out.c1 (fun e => by have := (HK4.out _ e).1; simp at this; omega)).mono ?_
  rintro e w2 ⟨rfl, q1, q2⟩
  have hz2 := q2.size
  simp only [World.size_alloc] at hz2
  have hR2 := HR1.out.grown q2 (fun e => by have := (HK4.out _ e.symm).1; simp at this; omega)
  have hG2 := HG1.out.grown q2 (fun e => by have := HUL.out _ e.symm; omega)
  have hE2 := HE1.out.kept q2 (by
    cases hr2 : r2 with
    | none => exact .inl rfl
    | some g =>
      right; intro e
      exact (HK4.out g e.symm).2 hr2)
  have hB2 := HB1.out.grown q2 HB1.out.size (fun g e => by have := (HK4.out g e).1; simp at this; omega)
  have HQ := Lib.hid q1
  have HE2 := Lib.hid hE2
  have HB2 := Lib.hid hB2
  obtain ⟨g0, g1⟩ := hG2.c2
  have gf0 := hG2.frozen 0
  have hgl := hG2.lt
  have hrl := hR2.lt
  obtain ⟨r0, r1'⟩ := hR2.c2
  have rf0 := hR2.frozen 0
  have rf1 := hR2.frozen 1
  clear q1 q2 hR2 hG2 hE2 hB2 HV1 HR1 HU1 HE1 HG1 HB1
  have e1 : keptTo es (offV v) n' = lessE es v := lessE_kept es v HL'.out
  have e2 : keptN es (offV v) n' = (lessE es v).length := by unfold keptN; rw [e1]
  have E1 := Lib.hid e1
  have E2 := Lib.hid e2
  clear e1 e2
  go_wp2_with fail
  refine bodyPost_ret (v := .agg #[.slice A1 (lessV vs v).length c1, .slice A2 (keptN es (offV v) n') c2]) (by simp [results, Try.results73, go_sem, r0, r1']) rfl ?_
  have HE3 := HE2.out
  rw [E1.out, E2.out] at HE3
  refine ⟨A1, c1, A2, c2, by rw [E2.out], ?_, ?_, ?_⟩
  · exact (((HQ.out.setCell_far (p := ⟨w1.heap.size, 0, none⟩) (fun g e => by have := HUL.out g e; simp; omega) _).setCell_far (fun g e => by have := (HK4.out g e).1; simp at this ⊢; omega) _).setCell_far (fun g e => by have := (HK4.out g e).1; simp at this ⊢; omega) _).rd
  · exact (((HE3.setCell_far (p := ⟨w1.heap.size, 0, none⟩) (fun g e => by have := HEL.out g e; simp; omega) _).setCell_far (fun g e => by have := HK5.out g e; simp at this ⊢; omega) _).setCell_far (fun g e => by have := HK5.out g e; simp at this ⊢; omega) _).rd
  · exact ((HB2.out.setCell (p := ⟨w1.heap.size, 0, none⟩) (by simp; omega) _).setCell (by simp; omega) _).setCell (by simp; omega) _
end Go.Proofs.Ytklmckbpbloonaa
