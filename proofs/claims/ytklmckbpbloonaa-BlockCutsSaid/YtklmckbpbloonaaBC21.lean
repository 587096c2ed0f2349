/- Parts of the proof: GraphB. -/
import Derived.Test.YtklmckbpbloonaaBC3
import Derived.Test.YtklmckbpbloonaaBC1
namespace Go.Proofs.Ytklmckbpbloonaa
open Go.RowKit

/-- The darts of one edge at v. -/
def endsE (v : Int) (e : Edg) : List Int := (if e.2.1 = v then [dOf e.1 0] else []) ++ (if e.2.2 = v then [dOf e.1 1] else [])
def endsL (es : List Edg) (v : Int) : List Int := es.flatMap (endsE v)
def endsTo (es : List Edg) (v : Int) (k : Nat) : List Int := endsL (es.take k) v
theorem endsTo_succ {es : List Edg} {v : Int} {k : Nat} {e : Edg} (h : es[k]? = some e) : endsTo es v (k + 1) = endsTo es v k ++ endsE v e := by
  unfold endsTo endsL; rw [take_at h, List.flatMap_append]; simp
theorem endsTo_all (es : List Edg) (v : Int) : endsTo es v es.length = endsL es v := by unfold endsTo; rw [List.take_length]
theorem endsTo_len (es : List Edg) (v : Int) (k : Nat) : (endsTo es v k).length ≤ 2 * k := by
  unfold endsTo endsL
  induction k generalizing es with
  | zero => simp
  | succ k ih =>
    cases es with
    | nil => simp
    | cons e es =>
      have := ih es
      simp only [List.take_succ_cons, List.flatMap_cons, List.length_append]
      have h2 : (endsE v e).length ≤ 2 := by unfold endsE; split <;> split <;> simp
      omega
theorem dOf_u32 (id e : Int) (he : e = 0 ∨ e = 1) : 0 ≤ dOf id e ∧ dOf id e < 4294967296 := by unfold dOf; omega

set_option maxRecDepth 100000 in
set_option maxHeartbeats 1000000 in
theorem ends_any (B : Nat) (A : Option Addr) (n c : Nat) (es : List Edg) (v0 : Value) (v : Int) (w : World) (h : RdE w B A n c es) (hn : n ≤ 1000000) (hB : B ≤ w.heap.size) :
    Calls Try.prog 23 #[.agg #[v0, .slice A n c], .int .u32 v] w fun e w' => ∃ r A' c', e = .returned (.slice A' (endsTo es v n).length c') ∧ OwnU w' r A' (endsTo es v n).length c' (endsTo es v n) ∧ Below w.heap.size w w' ∧ (∀ g, r = some g → w.heap.size ≤ g) := by
  obtain ⟨hnc, hc⟩ := h.bd
  have HB := Lib.hid ((Below.refl w.heap.size w).alloc (Nat.le_refl _) (.cells #[v0, .slice A n c] 25))
  go_enter Try.func23, Try.ntmps23
  go_wp2
  go_loopw [5, 11] (fun o i wr => ∃ (k : Nat) (r : Option Nat) (A' : Option Addr) (c' : Nat), k ≤ n ∧ i = .int .i64 k ∧ o = .slice A' (endsTo es v k).length c' ∧ OwnU wr r A' (endsTo es v k).length c' (endsTo es v k) ∧ Below w.heap.size w wr ∧ (∀ g, r = some g → w.heap.size ≤ g))
    (fun _ i _ => n - (intOf i).toNat)
  case atStart => exact ⟨0, none, none, 0, by omega, rfl, by simp [endsTo, endsL], by simpa [endsTo, endsL] using OwnU.nil_ _ _, HB.out, by simp⟩
  case round =>
    obtain ⟨k, r, A', c', hk, rfl, rfl, hown, hbr, hrg⟩ := hrel
    have hq := h.below (hbr.mono hB)
    by_cases hlt : k < n
    · obtain ⟨ad, x, rfl, hbl, hx, hxb, hc1, hc2, hc3⟩ := hq.at_ hlt
      have HX := Lib.hid hx
      have HO := Lib.hid hown
      have hlen := endsTo_len es v k
      have HS : Hid (endsTo es v (k + 1) = endsTo es v k ++ endsE v x) := endsTo_succ hx
      clear hx hown
      have HBX := Lib.hid (hbr.alloc hbr.size (.cells #[.int .u32 x.1, .int .u32 x.2.1, .int .u32 x.2.2] 39))
      have hle : (endsTo es v k).length ≤ 4000000 := by omega
      have hX := Blk.new wr 39 #[.int .u32 x.1, .int .u32 x.2.1, .int .u32 x.2.2]
      have d0 := dOf_u32 x.1 0 (.inl rfl)
      have d1 := dOf_u32 x.1 1 (.inr rfl)
      generalize hL : endsTo es v k = L at *
      clear hL
      by_cases ha : x.2.1 = v
      · have ha' : (x.2.1 == v) = true := by simp [ha]
        have HA := Lib.hid ha
        clear ha
        have hO1 := HO.out.alloc (.cells #[.int .u32 x.1, .int .u32 x.2.1, .int .u32 x.2.2] 39) |>.alloc (.cells #[.int .u32 (dOf x.1 0)] 31)
        have hB1 := HBX.out.alloc (by have := hbr.size; simp; omega) (.cells #[.int .u32 (dOf x.1 0)] 31)
        have hb1 := Blk.new (wr.alloc (.cells #[.int .u32 x.1, .int .u32 x.2.1, .int .u32 x.2.2] 39)) 31 #[.int .u32 (dOf x.1 0)]
        simp only [World.size_alloc] at hb1
        have hX1 := hX.alloc (.cells #[.int .u32 (dOf x.1 0)] 31)
        have hOl := HO.out.lt
        have H1 := Lib.hid hO1
        have H2 := Lib.hid hB1
        have H3 := Lib.hid hb1
        have H4 := Lib.hid hX1
        have H5 := Lib.hid hOl
        clear hO1 hB1 hb1 hX1 hOl
        by_cases hb : x.2.2 = v
        · have hb' : (x.2.2 == v) = true := by simp [hb]
          have HBB := Lib.hid hb
          clear hb
          go_wp2_with (first | (go_at_call_of 62 (Value.int .i64 0); refine (dartOf0 _ _).mono ?_; rintro e w' ⟨rfl, rfl⟩) | (go_at_call_of 62 (Value.int .i64 1); refine (dartOf1 _ _).mono ?_; rintro e w' ⟨rfl, rfl⟩) | (at_builtin; refine appU1 rfl (.tmp 19) (.tmp 23) rfl _ _ _ _ _ _ rfl H1.out _ _ rfl H3.out d0 (by omega) ?_; intro r1 A1 c1 w1 k1 k2 k3; have hX2 := H4.out.grown k2 (by intro e; have := H5.out _ e.symm; omega); obtain ⟨p1, p2, p3⟩ := hX2.c3; have p4 := hX2.lt) | (at_builtin; refine appU1 rfl (.tmp 29) (.tmp 33) rfl _ _ _ _ _ _ rfl (k1.alloc _) _ _ rfl (Blk.new _ _ _) d1 (by omega) ?_; intro r2 A2 c2 w2 m1 m2 m3))
          go_roundw
          case rel =>
            have e1 : endsTo es v (k + 1) = L ++ [dOf x.1 0] ++ [dOf x.1 1] := by rw [HS.out]; unfold endsE; rw [if_pos HA.out, if_pos HBB.out]; simp
            have e2 : (L ++ [dOf x.1 0] ++ [dOf x.1 1]).length = L.length + 1 + 1 := by simp
            have hB3 := H2.out.grown k2 (by have := hbr.size; simp; omega) hrg
            have hr1 := new_row k3 hrg (by have := hbr.size; simp; omega)
            refine ⟨k + 1, r2, A2, c2, by omega, by go_num, by rw [e1, e2], by rw [e1, e2]; exact m1, (hB3.alloc hB3.size _).grown m2 (by have := hB3.size; simp; omega) hr1, new_row m3 hr1 (by have := hB3.size; simp; omega)⟩
          case measure => simp [intOf]; omega
        · have hb' : (x.2.2 == v) = false := by simp [hb]
          have HBB := Lib.hid hb
          clear hb
          go_wp2_with (first | (go_at_call_of 62 (Value.int .i64 0); refine (dartOf0 _ _).mono ?_; rintro e w' ⟨rfl, rfl⟩) | (at_builtin; refine appU1 rfl (.tmp 19) (.tmp 23) rfl _ _ _ _ _ _ rfl H1.out _ _ rfl H3.out d0 (by omega) ?_; intro r1 A1 c1 w1 k1 k2 k3; have hX2 := H4.out.grown k2 (by intro e; have := H5.out _ e.symm; omega); obtain ⟨p1, p2, p3⟩ := hX2.c3; have p4 := hX2.lt))
          go_roundw
          case rel =>
            have e1 : endsTo es v (k + 1) = L ++ [dOf x.1 0] := by rw [HS.out]; unfold endsE; rw [if_pos HA.out, if_neg HBB.out]; simp
            have e2 : (L ++ [dOf x.1 0]).length = L.length + 1 := by simp
            refine ⟨k + 1, r1, A1, c1, by omega, by go_num, by rw [e1, e2], by rw [e1, e2]; exact k1, H2.out.grown k2 (by have := hbr.size; simp; omega) hrg, new_row k3 hrg (by have := hbr.size; simp; omega)⟩
          case measure => simp [intOf]; omega
      · have ha' : (x.2.1 == v) = false := by simp [ha]
        have HA := Lib.hid ha
        clear ha
        by_cases hb : x.2.2 = v
        · have hb' : (x.2.2 == v) = true := by simp [hb]
          have HBB := Lib.hid hb
          clear hb
          have hO1 := HO.out.alloc (.cells #[.int .u32 x.1, .int .u32 x.2.1, .int .u32 x.2.2] 39) |>.alloc (.cells #[.int .u32 (dOf x.1 1)] 31)
          have hB1 := HBX.out.alloc (by have := hbr.size; simp; omega) (.cells #[.int .u32 (dOf x.1 1)] 31)
          have hb1 := Blk.new (wr.alloc (.cells #[.int .u32 x.1, .int .u32 x.2.1, .int .u32 x.2.2] 39)) 31 #[.int .u32 (dOf x.1 1)]
          simp only [World.size_alloc] at hb1
          have H1 := Lib.hid hO1
          have H2 := Lib.hid hB1
          have H3 := Lib.hid hb1
          clear hO1 hB1 hb1
          go_wp2_with (first | (go_at_call 62; refine (dartOf1 _ _).mono ?_; rintro e w' ⟨rfl, rfl⟩) | (at_builtin; refine appU1 rfl (.tmp 29) (.tmp 33) rfl _ _ _ _ _ _ rfl H1.out _ _ rfl H3.out d1 (by omega) ?_; intro r1 A1 c1 w1 k1 k2 k3))
          go_roundw
          case rel =>
            have e1 : endsTo es v (k + 1) = L ++ [dOf x.1 1] := by rw [HS.out]; unfold endsE; rw [if_neg HA.out, if_pos HBB.out]; simp
            have e2 : (L ++ [dOf x.1 1]).length = L.length + 1 := by simp
            refine ⟨k + 1, r1, A1, c1, by omega, by go_num, by rw [e1, e2], by rw [e1, e2]; exact k1, H2.out.grown k2 (by have := hbr.size; simp; omega) hrg, new_row k3 hrg (by have := hbr.size; simp; omega)⟩
          case measure => simp [intOf]; omega
        · have hb' : (x.2.2 == v) = false := by simp [hb]
          have HBB := Lib.hid hb
          clear hb
          go_wp2
          go_roundw
          case rel =>
            have e1 : endsTo es v (k + 1) = L := by rw [HS.out]; unfold endsE; rw [if_neg HA.out, if_neg HBB.out]; simp
            refine ⟨k + 1, r, A', c', by omega, by go_num, by rw [e1], by rw [e1]; exact HO.out.alloc _, HBX.out, hrg⟩
          case measure => simp [intOf]; omega
    · obtain rfl : k = n := by omega
      go_wp2
      go_ret
      exact ⟨r, A', c', rfl, hown, hbr, hrg⟩
set_option maxRecDepth 100000 in
set_option maxHeartbeats 1000000 in
theorem rends_any (B : Nat) (A : Option Addr) (n c : Nat) (es : List Edg) (v0 : Value) (v : Int) (w : World) (h : RdE w B A n c es) (hn : n ≤ 1000000) (hB : B ≤ w.heap.size) :
    Calls Try.prog 16 #[.agg #[v0, .slice A n c], .int .u32 v] w fun e w' => ∃ r A' c', e = .returned (.slice A' (endsTo es v n).length c') ∧ OwnU w' r A' (endsTo es v n).length c' (endsTo es v n) ∧ Below w.heap.size w w' ∧ (∀ g, r = some g → w.heap.size ≤ g) := by
  obtain ⟨hnc, hc⟩ := h.bd
  have HB := Lib.hid ((Below.refl w.heap.size w).alloc (Nat.le_refl _) (.cells #[v0, .slice A n c] 25))
  go_enter Try.func16, Try.ntmps16
  go_wp2
  go_loopw [5, 11] (fun o i wr => ∃ (k : Nat) (r : Option Nat) (A' : Option Addr) (c' : Nat), k ≤ n ∧ i = .int .i64 k ∧ o = .slice A' (endsTo es v k).length c' ∧ OwnU wr r A' (endsTo es v k).length c' (endsTo es v k) ∧ Below w.heap.size w wr ∧ (∀ g, r = some g → w.heap.size ≤ g))
    (fun _ i _ => n - (intOf i).toNat)
  case atStart => exact ⟨0, none, none, 0, by omega, rfl, by simp [endsTo, endsL], by simpa [endsTo, endsL] using OwnU.nil_ _ _, HB.out, by simp⟩
  case round =>
    obtain ⟨k, r, A', c', hk, rfl, rfl, hown, hbr, hrg⟩ := hrel
    have hq := h.below (hbr.mono hB)
    by_cases hlt : k < n
    · obtain ⟨ad, x, rfl, hbl, hx, hxb, hc1, hc2, hc3⟩ := hq.at_ hlt
      have HX := Lib.hid hx
      have HO := Lib.hid hown
      have hlen := endsTo_len es v k
      have HS : Hid (endsTo es v (k + 1) = endsTo es v k ++ endsE v x) := endsTo_succ hx
      clear hx hown
      have HBX := Lib.hid (hbr.alloc hbr.size (.cells #[.int .u32 x.1, .int .u32 x.2.1, .int .u32 x.2.2] 39))
      have hle : (endsTo es v k).length ≤ 4000000 := by omega
      have hX := Blk.new wr 39 #[.int .u32 x.1, .int .u32 x.2.1, .int .u32 x.2.2]
      have d0 := dOf_u32 x.1 0 (.inl rfl)
      have s0 : 2 * x.1 % 4294967296 = dOf x.1 0 := by unfold dOf; omega
      have s1 : (2 * x.1 % 4294967296 + 1) % 4294967296 = dOf x.1 1 := by unfold dOf; omega
      have s2 : IntKind.u32.wrap (2 * x.1) = dOf x.1 0 := by rw [IntKind.wrap_u32]; exact s0
      have s3 : IntKind.u32.wrap (dOf x.1 0 + 1) = dOf x.1 1 := by rw [IntKind.wrap_u32, ← s0]; exact s1
      have s4 : (dOf x.1 0 + 1) % 4294967296 = dOf x.1 1 := by rw [← s0]; exact s1
      have d1 := dOf_u32 x.1 1 (.inr rfl)
      generalize hL : endsTo es v k = L at *
      clear hL
      by_cases ha : x.2.1 = v
      · have ha' : (x.2.1 == v) = true := by simp [ha]
        have HA := Lib.hid ha
        clear ha
        have hO1 := HO.out.alloc (.cells #[.int .u32 x.1, .int .u32 x.2.1, .int .u32 x.2.2] 39) |>.alloc (.cells #[.int .u32 (dOf x.1 0)] 31)
        have hB1 := HBX.out.alloc (by have := hbr.size; simp; omega) (.cells #[.int .u32 (dOf x.1 0)] 31)
        have hb1 := Blk.new (wr.alloc (.cells #[.int .u32 x.1, .int .u32 x.2.1, .int .u32 x.2.2] 39)) 31 #[.int .u32 (dOf x.1 0)]
        simp only [World.size_alloc] at hb1
        have hX1 := hX.alloc (.cells #[.int .u32 (dOf x.1 0)] 31)
        have hOl := HO.out.lt
        have H1 := Lib.hid hO1
        have H2 := Lib.hid hB1
        have H3 := Lib.hid hb1
        have H4 := Lib.hid hX1
        have H5 := Lib.hid hOl
        clear hO1 hB1 hb1 hX1 hOl
        by_cases hb : x.2.2 = v
        · have hb' : (x.2.2 == v) = true := by simp [hb]
          have HBB := Lib.hid hb
          clear hb
          go_wp2_with (first | (at_builtin; refine appU1 rfl (.tmp 19) (.tmp 23) rfl _ _ _ _ _ _ rfl H1.out _ _ rfl H3.out d0 (by omega) ?_; intro r1 A1 c1 w1 k1 k2 k3; have hX2 := H4.out.grown k2 (by intro e; have := H5.out _ e.symm; omega); obtain ⟨p1, p2, p3⟩ := hX2.c3; have p4 := hX2.lt) | (at_builtin; refine appU1 rfl (.tmp 29) (.tmp 34) rfl _ _ _ _ _ _ rfl (k1.alloc _) _ _ rfl (Blk.new _ _ _) d1 (by omega) ?_; intro r2 A2 c2 w2 m1 m2 m3))
          go_roundw
          case rel =>
            have e1 : endsTo es v (k + 1) = L ++ [dOf x.1 0] ++ [dOf x.1 1] := by rw [HS.out]; unfold endsE; rw [if_pos HA.out, if_pos HBB.out]; simp
            have e2 : (L ++ [dOf x.1 0] ++ [dOf x.1 1]).length = L.length + 1 + 1 := by simp
            have hB3 := H2.out.grown k2 (by have := hbr.size; simp; omega) hrg
            have hr1 := new_row k3 hrg (by have := hbr.size; simp; omega)
            refine ⟨k + 1, r2, A2, c2, by omega, by go_num, by rw [e1, e2], by rw [e1, e2]; exact m1, (hB3.alloc hB3.size _).grown m2 (by have := hB3.size; simp; omega) hr1, new_row m3 hr1 (by have := hB3.size; simp; omega)⟩
          case measure => simp [intOf]; omega
        · have hb' : (x.2.2 == v) = false := by simp [hb]
          have HBB := Lib.hid hb
          clear hb
          go_wp2_with (first | (at_builtin; refine appU1 rfl (.tmp 19) (.tmp 23) rfl _ _ _ _ _ _ rfl H1.out _ _ rfl H3.out d0 (by omega) ?_; intro r1 A1 c1 w1 k1 k2 k3; have hX2 := H4.out.grown k2 (by intro e; have := H5.out _ e.symm; omega); obtain ⟨p1, p2, p3⟩ := hX2.c3; have p4 := hX2.lt))
          go_roundw
          case rel =>
            have e1 : endsTo es v (k + 1) = L ++ [dOf x.1 0] := by rw [HS.out]; unfold endsE; rw [if_pos HA.out, if_neg HBB.out]; simp
            have e2 : (L ++ [dOf x.1 0]).length = L.length + 1 := by simp
            refine ⟨k + 1, r1, A1, c1, by omega, by go_num, by rw [e1, e2], by rw [e1, e2]; exact k1, H2.out.grown k2 (by have := hbr.size; simp; omega) hrg, new_row k3 hrg (by have := hbr.size; simp; omega)⟩
          case measure => simp [intOf]; omega
      · have ha' : (x.2.1 == v) = false := by simp [ha]
        have HA := Lib.hid ha
        clear ha
        by_cases hb : x.2.2 = v
        · have hb' : (x.2.2 == v) = true := by simp [hb]
          have HBB := Lib.hid hb
          clear hb
          have hO1 := HO.out.alloc (.cells #[.int .u32 x.1, .int .u32 x.2.1, .int .u32 x.2.2] 39) |>.alloc (.cells #[.int .u32 (dOf x.1 1)] 31)
          have hB1 := HBX.out.alloc (by have := hbr.size; simp; omega) (.cells #[.int .u32 (dOf x.1 1)] 31)
          have hb1 := Blk.new (wr.alloc (.cells #[.int .u32 x.1, .int .u32 x.2.1, .int .u32 x.2.2] 39)) 31 #[.int .u32 (dOf x.1 1)]
          simp only [World.size_alloc] at hb1
          have H1 := Lib.hid hO1
          have H2 := Lib.hid hB1
          have H3 := Lib.hid hb1
          clear hO1 hB1 hb1
          go_wp2_with (first | (at_builtin; refine appU1 rfl (.tmp 29) (.tmp 34) rfl _ _ _ _ _ _ rfl H1.out _ _ rfl H3.out d1 (by omega) ?_; intro r1 A1 c1 w1 k1 k2 k3))
          go_roundw
          case rel =>
            have e1 : endsTo es v (k + 1) = L ++ [dOf x.1 1] := by rw [HS.out]; unfold endsE; rw [if_neg HA.out, if_pos HBB.out]; simp
            have e2 : (L ++ [dOf x.1 1]).length = L.length + 1 := by simp
            refine ⟨k + 1, r1, A1, c1, by omega, by go_num, by rw [e1, e2], by rw [e1, e2]; exact k1, H2.out.grown k2 (by have := hbr.size; simp; omega) hrg, new_row k3 hrg (by have := hbr.size; simp; omega)⟩
          case measure => simp [intOf]; omega
        · have hb' : (x.2.2 == v) = false := by simp [hb]
          have HBB := Lib.hid hb
          clear hb
          go_wp2
          go_roundw
          case rel =>
            have e1 : endsTo es v (k + 1) = L := by rw [HS.out]; unfold endsE; rw [if_neg HA.out, if_neg HBB.out]; simp
            refine ⟨k + 1, r, A', c', by omega, by go_num, by rw [e1], by rw [e1]; exact HO.out.alloc _, HBX.out, hrg⟩
          case measure => simp [intOf]; omega
    · obtain rfl : k = n := by omega
      go_wp2
      go_ret
      exact ⟨r, A', c', rfl, hown, hbr, hrg⟩
end Go.Proofs.Ytklmckbpbloonaa
