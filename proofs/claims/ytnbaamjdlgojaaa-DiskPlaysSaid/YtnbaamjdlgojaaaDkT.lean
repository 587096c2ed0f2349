/- Walks: an act done at both. -/
import Derived.Test.YtnbaamjdlgojaaaDkU
import Derived.Test.YtnbaamjdlgojaaaDkO
import Derived.Test.YtnbaamjdlgojaaaDkE
namespace Go.Proofs.Ytnbaamjdlgojaaa
open Go.RowKit

def deedV (x : Deed) : Value := .agg #[.int .i64 x.kind, .int .i64 x.at_, .int .u8 x.b, .slice x.kA x.kn x.kc]
theorem light_any (x : Deed) (w : World) (hk : x.kn ≤ 9223372036854775807) : Calls Try.prog 19 #[deedV x] w fun e w' => e = .returned (.bool (decide (x.kn ≤ 500))) ∧ Below w.heap.size w w' := by
  have HB := Lib.hid ((Below.refl w.heap.size w).alloc (Nat.le_refl _) (.cells #[.int .i64 x.kind, .int .i64 x.at_, .int .u8 x.b, .slice x.kA x.kn x.kc] 30))
  unfold deedV
  go_enter Try.func19, Try.ntmps19
  go_wp2
  go_ret
  exact ⟨ret_bool (by simp; omega), HB.out⟩
/-- Both disks, in one state; B: what came in lies below. -/
structure Pair (w : World) (B M g b l h sh la wa : Nat) (s : DS) : Prop where
  dk : DkAt w g b l s
  rf : RefAt w h sh la wa s
  lo : B ≤ g ∧ B ≤ b ∧ B ≤ l ∧ g < M ∧ b < M ∧ l < M
  hi : B ≤ M ∧ M ≤ h ∧ M ≤ sh ∧ M ≤ la ∧ M ≤ wa
section
variable {w w' w'' : World} {B M g b l h sh la wa : Nat} {s s' : DS}
theorem Pair.on (p : Pair w B M g b l h sh la wa s) (hb : Below w.heap.size w w') : Pair w' B M g b l h sh la wa s := ⟨p.dk.below hb, p.rf.below hb, p.lo, p.hi⟩
theorem Pair.drewN (p : Pair w B M g b l h sh la wa s) (n : Nat) : Pair (w.drewN n) B M g b l h sh la wa s := ⟨p.dk.drewN n, p.rf.drewN n, p.lo, p.hi⟩
theorem Pair.size (p : Pair w B M g b l h sh la wa s) : B ≤ w.heap.size ∧ M ≤ w.heap.size := by have := p.rf.head.lt; have := p.hi; omega
theorem Pair.refAt (p : Pair w B M g b l h sh la wa s) {S : List Nat} (hc : Chg S w w') (hS : ∀ k ∈ S, k < M ∨ w.heap.size ≤ k) : RefAt w' h sh la wa s := by
  obtain ⟨h1, h2, h3, h4, h5⟩ := p.hi
  have a1 := p.rf.head.lt
  have a2 := p.rf.shown.1.lt
  have a3 := p.rf.last.1.lt
  have a4 := p.rf.waits.lt
  exact p.rf.keep hc (fun e => by have := hS _ e; omega) (fun e => by have := hS _ e; omega) (fun e => by have := hS _ e; omega) (fun e => by have := hS _ e; omega)
theorem Pair.dkAt (p : Pair w B M g b l h sh la wa s) {S : List Nat} (hc : Chg S w w') (hS : ∀ k ∈ S, M ≤ k) : DkAt w' g b l s := by
  obtain ⟨h1, h2, h3, h4, h5, h6⟩ := p.lo
  exact p.dk.keep hc (fun e => by have := hS _ e; omega) (fun e => by have := hS _ e; omega) (fun e => by have := hS _ e; omega)
theorem DkAt.hiS (p : Pair w B M g b l h sh la wa s) {S : List Nat} (d : DkAt w' g b l s') (hc : Chg S w' w'') (hS : ∀ k ∈ S, M ≤ k) : DkAt w'' g b l s' := by
  obtain ⟨h1, h2, h3, h4, h5, h6⟩ := p.lo
  exact d.keep hc (fun e => by have := hS _ e; omega) (fun e => by have := hS _ e; omega) (fun e => by have := hS _ e; omega)
theorem RefAt.loS (p : Pair w B M g b l h sh la wa s) {S : List Nat} (d : RefAt w' h sh la wa s') (hc : Chg S w' w'') (hS : ∀ k ∈ S, k < M) : RefAt w'' h sh la wa s' := by
  obtain ⟨h1, h2, h3, h4, h5⟩ := p.hi
  exact d.keep hc (fun e => by have := hS _ e; omega) (fun e => by have := hS _ e; omega) (fun e => by have := hS _ e; omega) (fun e => by have := hS _ e; omega)
end
def pairS (g b l h sh la wa : Nat) : List Nat := [g, b, l, h, sh, la, wa]
set_option maxRecDepth 100000 in
theorem do_barrier (B M g b l h sh la wa : Nat) (s : DS) (x : Deed) (w : World) (p : Pair w B M g b l h sh la wa s) (hst : 0 ≤ s.steps ∧ s.steps ≤ 1000000) (hx : x.kind.tmod 5 = 1 ∨ x.kind.tmod 5 = -1) :
    Calls Try.prog 20 #[.pointer (some ⟨g, 0, none⟩), .pointer (some ⟨h, 0, none⟩), deedV x] w fun e w' => e = .returned (.bool true) ∧ Pair w' B M g b l h sh la wa (barriered s) ∧ Below B w w' := by
  have HP := Lib.hid (p.on ((Below.refl w.heap.size w).alloc (Nat.le_refl _) (.cells #[.int .i64 x.kind, .int .i64 x.at_, .int .u8 x.b, .slice x.kA x.kn x.kc] 30)))
  have HB := Lib.hid ((Below.refl B w).alloc p.size.1 (.cells #[.int .i64 x.kind, .int .i64 x.at_, .int .u8 x.b, .slice x.kA x.kn x.kc] 30))
  unfold deedV
  clear p
  rcases hx with hx | hx
  all_goals
    go_enter Try.func20, Try.ntmps20
    go_wp2_with (first
      | (go_at_call 9; refine (barrier_any _ _ _ _ _ HP.out.dk hst).mono ?_; rintro e w1 ⟨rfl, d1, C1⟩; have R1 := HP.out.refAt C1 (by have := HP.out.lo; simp; omega))
      | (go_at_call 27; refine (rbarrier_any _ _ _ _ _ _ R1 hst).mono ?_; rintro e w2 ⟨rfl, r2, C2⟩))
    go_ret
    have hlo := HP.out.lo
    have hhi := HP.out.hi
    have B1 : Below B w w1 := HB.out.trans (C1.below (by have := HP.out.size; omega) (by simp; omega))
    exact ⟨ret_bool (by simp), ⟨DkAt.hiS HP.out d1 C2 (by simp; omega), r2, hlo, hhi⟩, B1.trans (C2.below (by have := B1.size; have := HP.out.size; have := C1.size; omega) (by simp; omega))⟩
set_option maxRecDepth 100000 in
theorem do_read (B M g b l h sh la wa : Nat) (s : DS) (x : Deed) (w : World) (p : Pair w B M g b l h sh la wa s) (hx : x.kind.tmod 5 = 2 ∨ x.kind.tmod 5 = -2) :
    Calls Try.prog 20 #[.pointer (some ⟨g, 0, none⟩), .pointer (some ⟨h, 0, none⟩), deedV x] w fun e w' => e = .returned (.bool true) ∧ Pair w' B M g b l h sh la wa s ∧ Below B w w' := by
  have HP := Lib.hid (p.on ((Below.refl w.heap.size w).alloc (Nat.le_refl _) (.cells #[.int .i64 x.kind, .int .i64 x.at_, .int .u8 x.b, .slice x.kA x.kn x.kc] 30)))
  have HB := Lib.hid ((Below.refl B w).alloc p.size.1 (.cells #[.int .i64 x.kind, .int .i64 x.at_, .int .u8 x.b, .slice x.kA x.kn x.kc] 30))
  have hz := zeroB
  have HOK := Lib.hid (readB_ok p.dk.ok x.at_)
  have heq : ∀ W : World, (Op.equalIn 10000 33 (.agg (ca (readB s x.at_))) (.agg (ca (readB s x.at_)))).run Try.prog W = .ok true W := fun W => by rw [equalB HOK.out HOK.out]; simp
  have HX := Lib.hid (Blk.new w 30 #[.int .i64 x.kind, .int .i64 x.at_, .int .u8 x.b, .slice x.kA x.kn x.kc])
  have hws := p.size
  unfold deedV
  clear p
  rcases hx with hx | hx
  all_goals
    go_enter Try.func20, Try.ntmps20
    go_wp2_with (first
      | (go_at_call 13; refine (read_any _ _ _ _ _ _ HP.out.dk).mono ?_; rintro e w1 ⟨rfl, B1⟩; have HF1 := Lib.hid (BlAt.fresh w1); have P1 := Lib.hid (HP.out.on B1); have X1 := Lib.hid (HX.out.below B1 (by simp)); have K1 := Lib.hid (HB.out.trans (B1.mono (by simp; omega))); have hs1 : w.heap.size + 1 ≤ w1.heap.size := (by have := B1.size; simpa using this))
      | ((with_reducible refine wpList_storeB (o := ⟨none, .store _ (.tmp 7) _, _, _, _, _⟩) ?_ (.tmp 7) (.tmp 54) ?_ w1.heap.size zB (readB s x.at_) ?_ ?_ HF1.out HOK.out ?_); rfl; rfl; rfl; rfl; intro w2 k1 k2 k3; have B2 : Below w1.heap.size w1 w2 := ((Below.refl _ w1).alloc (Nat.le_refl _) _).trans (k2.below (by simp) (by simp)); have HK1 := Lib.hid k1; have P2 := Lib.hid (P1.out.on B2); have K2 := Lib.hid (K1.out.trans (B2.mono (by omega))); have X2 := X1.out.below B2 (by omega); have y1 : w2.cell? ⟨w.heap.size, 1, none⟩ = some (.int .i64 x.at_) := X2.cell 1; have HB2 := Lib.hid B2; have hs2 := B2.size; clear X2 k1 k2 k3 B2)
      | (go_at_call 28; refine (rread_any _ _ _ _ _ _ _ P2.out.rf).mono ?_; rintro e w3 ⟨rfl, B3⟩; have HF3 := Lib.hid (BlAt.fresh w3); have P3 := Lib.hid (P2.out.on B3); have K3 := Lib.hid (K2.out.trans (B3.mono (by have := K2.out.size; omega))); have hs3 := B3.size; have Z3 := Lib.hid (HK1.out.1.below B3 HK1.out.1.lt); have hl1 := HK1.out.1.lt)
      | ((with_reducible refine wpList_storeB (o := ⟨none, .store _ (.tmp 9) _, _, _, _, _⟩) ?_ (.tmp 9) (.tmp 61) ?_ w3.heap.size zB (readB s x.at_) ?_ ?_ HF3.out HOK.out ?_); rfl; rfl; rfl; rfl; intro w4 k1 k2 k3; have B4 : Below w3.heap.size w3 w4 := ((Below.refl _ w3).alloc (Nat.le_refl _) _).trans (k2.below (by simp) (by simp)); have HK4 := Lib.hid k1; have P4 := Lib.hid (P3.out.on B4); have K4 := Lib.hid (K3.out.trans (B4.mono (by have := K3.out.size; omega))); have Z4 : Hid (BlAt w4 w1.heap.size (readB s x.at_)) := ⟨Z3.out.below B4 Z3.out.lt, HOK.out⟩; clear k1 k2 k3 B4)
      | ((with_reducible refine wpList_loadB (o := ⟨some 63, _, _, _, _, _⟩) ?_ (.tmp 7) ?_ w1.heap.size (readB s x.at_) ?_ Z4.out ?_); rfl; rfl; rfl)
      | ((with_reducible refine wpList_loadB (o := ⟨some 64, _, _, _, _, _⟩) ?_ (.tmp 9) ?_ w3.heap.size (readB s x.at_) ?_ HK4.out ?_); rfl; rfl; rfl))
    go_ret
    exact ⟨ret_bool (by simp), P4.out, K4.out⟩
set_option maxRecDepth 100000 in
theorem do_fuse (B M g b l h sh la wa : Nat) (s : DS) (x : Deed) (w : World) (p : Pair w B M g b l h sh la wa s) (hn : -9223372036854775808 ≤ x.at_ ∧ x.at_ ≤ 9223372036854775807) (hx : x.kind.tmod 5 = 3 ∨ x.kind.tmod 5 = -3) :
    Calls Try.prog 20 #[.pointer (some ⟨g, 0, none⟩), .pointer (some ⟨h, 0, none⟩), deedV x] w fun e w' => e = .returned (.bool true) ∧ Pair w' B M g b l h sh la wa (fused s x.at_) ∧ Below B w w' := by
  have HP := Lib.hid (p.on ((Below.refl w.heap.size w).alloc (Nat.le_refl _) (.cells #[.int .i64 x.kind, .int .i64 x.at_, .int .u8 x.b, .slice x.kA x.kn x.kc] 30)))
  have HB := Lib.hid ((Below.refl B w).alloc p.size.1 (.cells #[.int .i64 x.kind, .int .i64 x.at_, .int .u8 x.b, .slice x.kA x.kn x.kc] 30))
  have HX := Lib.hid (Blk.new w 30 #[.int .i64 x.kind, .int .i64 x.at_, .int .u8 x.b, .slice x.kA x.kn x.kc])
  have hws := p.size
  have hgl := p.dk.head.lt
  unfold deedV
  clear p
  have hlo := HP.out.lo
  have hhi := HP.out.hi
  · rcases hx with hx | hx
    all_goals
      go_enter Try.func20, Try.ntmps20
      go_wp2_with (first
        | (go_at_call 14; refine (fuse_any _ _ _ _ _ _ HP.out.dk hn).mono ?_; rintro e w1 ⟨rfl, d1, C1⟩; have R1 := HP.out.refAt C1 (by simp; omega); have X1 := C1.blk HX.out (by simp; omega); have y1 : w1.cell? ⟨w.heap.size, 1, none⟩ = some (.int .i64 x.at_) := X1.cell 1; obtain ⟨c0, c1, c2, c3, c4, c5⟩ := R1.c; obtain ⟨f3, f4, f5⟩ := R1.f; have D1 := Lib.hid d1; have HR1 := Lib.hid R1; clear d1 R1 X1))
      go_ret
      have C2 := (Chg.refl [h] w1).setCell (p := ⟨h, 4, none⟩) (by simp) (.int .i64 (fused s x.at_).fuse)
      have hfu : (fused s x.at_).fuse = max x.at_ (-1) := by unfold fused; simp only; split <;> omega
      rw [hfu] at C2
      have B1 : Below B w w1 := HB.out.trans (C1.below (by have := HP.out.size; omega) (by simp; omega))
      obtain ⟨n1, n2, n3, n4, n5, n6⟩ := HR1.out.ne
      have E2 : ∀ k ∈ [h], M ≤ k := fun k hk => by have := List.mem_singleton.1 hk; omega
      have E3 := C2.below (B := B) (by have := B1.size; omega) (fun k hk => by have := E2 k hk; omega)
      refine ⟨rfl, ⟨DkAt.hiS HP.out D1.out C2 E2, ⟨?_, ?_, ?_, ?_, n4, D1.out.ok⟩, hlo, hhi⟩, B1.trans E3⟩
      · have := HR1.out.head.set_ 4 (.int .i64 (fused s x.at_).fuse)
        rw [hfu] at this
        have e : refCells (fused s x.at_) sh la wa = (refCells s sh la wa).setIfInBounds 4 (.int .i64 (fused s x.at_).fuse) := rfl
        rw [e, hfu]; exact this
      · exact C2.last HR1.out.shown (by simp; omega)
      · exact C2.last HR1.out.last (by simp; omega)
      · exact C2.blk HR1.out.waits (by simp; omega)
set_option maxRecDepth 100000 in
theorem do_crash (B M g b l h sh la wa : Nat) (s : DS) (x : Deed) (w : World) (p : Pair w B M g b l h sh la wa s) (hk : RdB w B x.kA x.kn x.kc x.kept) (hl : s.cache.length ≤ 4096) (hx : x.kind.tmod 5 = 4 ∨ x.kind.tmod 5 = -4) :
    Calls Try.prog 20 #[.pointer (some ⟨g, 0, none⟩), .pointer (some ⟨h, 0, none⟩), deedV x] w fun e w' => e = .returned (.bool true) ∧ Pair w' B M g b l h sh la wa (crashed s x.kept) ∧ Below B w w' := by
  have HP := Lib.hid (p.on ((Below.refl w.heap.size w).alloc (Nat.le_refl _) (.cells #[.int .i64 x.kind, .int .i64 x.at_, .int .u8 x.b, .slice x.kA x.kn x.kc] 30)))
  have HB := Lib.hid ((Below.refl B w).alloc p.size.1 (.cells #[.int .i64 x.kind, .int .i64 x.at_, .int .u8 x.b, .slice x.kA x.kn x.kc] 30))
  have HX := Lib.hid (Blk.new w 30 #[.int .i64 x.kind, .int .i64 x.at_, .int .u8 x.b, .slice x.kA x.kn x.kc])
  have hws := p.size
  have hgl := p.dk.head.lt
  unfold deedV
  clear p
  have hlo := HP.out.lo
  have hhi := HP.out.hi
  rcases hx with hx | hx
  all_goals
    go_enter Try.func20, Try.ntmps20
    go_wp2_with (first
      | (go_at_call 12; refine (crash_any _ _ _ B _ _ _ _ _ _ HP.out.dk hl (hk.below HB.out) (by have := HB.out.size; omega) (by omega) (by omega) (by omega)).mono ?_; rintro e w1 ⟨rfl, d1, C1⟩; have R1 := Lib.hid (HP.out.refAt C1 (by simp; omega)); have X1 := C1.blk HX.out (by simp; omega); have y1 : w1.cell? ⟨w.heap.size, 3, none⟩ = some (.slice x.kA x.kn x.kc) := X1.cell 3; have D1 := Lib.hid d1; have B1 : Below B w w1 := HB.out.trans (C1.below (by have := HP.out.size; omega) (by simp; omega)); have K1 := Lib.hid (hk.below B1); clear d1 X1)
      | (go_at_call 29; refine (rcrash_any _ _ _ _ B _ _ _ _ _ _ R1.out K1.out (by have := B1.size; omega) (by omega) (by omega) (by omega) (by omega)).mono ?_; rintro e w2 ⟨rfl, r2, C2⟩))
    go_ret
    exact ⟨rfl, ⟨DkAt.hiS HP.out D1.out C2 (by simp; omega), r2, hlo, hhi⟩, B1.trans (C2.below (by have := B1.size; omega) (by simp; omega))⟩
end Go.Proofs.Ytnbaamjdlgojaaa
