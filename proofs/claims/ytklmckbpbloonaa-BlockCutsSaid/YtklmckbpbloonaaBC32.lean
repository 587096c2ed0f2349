/- Parts of the proof: BkB. -/
import Derived.Test.YtklmckbpbloonaaBC25
namespace Go.Proofs.Ytklmckbpbloonaa
open Go.RowKit

set_option maxRecDepth 100000 in
set_option maxHeartbeats 4000000 in
theorem join_any (g : Nat) (ids : List Int) (f : Int → Int) (a b : Int) (w : World) (hM : MapOf w g .u32 encU32 (mapF ids f)) (ha : a ∈ ids) (hb : b ∈ ids) :
    Calls Try.prog 75 #[.map (some g), .int .u32 a, .int .u32 b] w fun e w' => e = .returned (.tuple #[]) ∧ MapOf w' g .u32 encU32 (mapF ids (lstep f (0, a, b))) ∧ w.grownBy w' (some g) := by
  have HMX := Lib.hid hM
  have hnd := hM.nodup
  rw [mkeys_mapF] at hnd
  have HND := Lib.hid hnd
  have hlA : ∀ q, (Instr.lookup 93 (.map (some g)) (.int .u32 a) false).run Try.prog (w.drewN q) = .ok (.int .u32 (f a)) (w.drewN q) := fun q => by
    have := (HMX.out.drewN q).lookup Try.underlying93 Try.underlying31 (zeroU _) a
    rw [mget_mapF, if_pos ha] at this; exact this
  have hlB : ∀ q, (Instr.lookup 93 (.map (some g)) (.int .u32 b) false).run Try.prog (w.drewN q) = .ok (.int .u32 (f b)) (w.drewN q) := fun q => by
    have := (HMX.out.drewN q).lookup Try.underlying93 Try.underlying31 (zeroU _) b
    rw [mget_mapF, if_pos hb] at this; exact this
  clear hM hnd
  go_enter Try.func75, Try.ntmps75
  go_wp2_with fail
  go_quiet (fail)
  obtain ⟨lo, hlo⟩ : ∃ lo, (if f b < f a then f b else f a) = lo := ⟨_, rfl⟩
  obtain ⟨hi, hhi⟩ : ∃ hi, (if f a < f b then f b else f a) = hi := ⟨_, rfl⟩
  rw [hlo, hhi]
  have HLO : Hid (mnI (f a) (f b) = lo) := hlo
  have HHI : Hid (mxI (f a) (f b) = hi) := hhi
  clear hlo hhi
  go_wp2_with (refine wpList_mrange rfl (.tmp 24) _ 31 31 rfl Try.underlying93 (HMX.out.drewN _) rfl ?_; intro w2 k1 k2 k3)
  have HI := Lib.hid k1
  have HG := Lib.hid (show w.grownBy w2 (some g) from ⟨k2.os, k2.tape, k2.output, k2.size, fun j hj hne => k2.block j hj (by simp)⟩)
  have hgl := HMX.out.lt
  clear hlA hlB k1 k2 k3
  go_frame
  go_loopg [] (ids.length + 1) (fun m wr2 => ∃ left : List Int, left.length < m ∧ left.Nodup ∧ Iter wr2 g w.heap.size .u32 encU32 (mapF ids (midF f (lstep f (0, a, b)) left)) left ∧ w.grownBy wr2 (some g))
  case atStart =>
    refine ⟨ids, by omega, HND.out, ?_, HG.out⟩
    have e1 := HI.out
    rw [mkeys_mapF] at e1
    rw [mapF_congr (g := f) fun v hv => by unfold midF; rw [if_pos hv]]
    simpa using e1
  case round =>
    clear HG HI
    obtain ⟨left, hll, hln, hI, hg2⟩ := hrel
    have HI := Lib.hid hI
    clear hI
    go_wp2_with (first
      | (at_next; refine wpList_mnext rfl (.tmp 25) rfl HI.out rfl (fun h0 => ?_) (fun y v w3 m1 m2 m3 m4 m5 m6 hen => ?_) <;> try simp only [encU32] at hen ⊢)
      | (refine wpList_mputIter rfl (.tmp 34) (.tmp 35) (.tmp 36) _ 31 31 rfl Try.underlying93 Try.underlying31 y _ m4 (by rw [← mget_some, m3]; rfl) rfl rfl rfl ?_; intro w4 p1 p2 p3))
    · -- all gone through
      subst h0
      have hM2 := HI.out.map
      rw [mapF_congr (g := lstep f (0, a, b)) fun v _ => by unfold midF; rw [if_neg (by simp)]] at hM2
      go_end0
      exact ⟨rfl, hM2, hg2⟩
    all_goals
      obtain ⟨hyv, rfl⟩ := mid_get m1 m3
      have hlen : (left.erase y).length < left.length := by rw [List.length_erase_of_mem m1]; have := List.length_pos_of_mem m1; omega
      have hw3 : w.grownBy w3 (some g) := hg2.andThen m5 (fun j hj => by cases hj; exact Or.inl (Nat.le_refl _))
      first
        | have ht : (f y == hi) = false := by assumption
          have hgy : lstep f (0, a, b) y = f y := by
            unfold lstep; rw [if_neg (show ¬ f y = mxI (f a) (f b) from fun e => by rw [beq_eq_false_iff_ne] at ht; exact ht (e.trans HHI.out))]
          rw [← mid_keep m2 hgy] at m4
          go_roundg left.length
          case rel => exact ⟨left.erase y, hlen, m2.erase y, m4, hw3⟩
          case measure => exact hll
        | have ht : (f y == hi) = true := by assumption
          have hgy : lo = lstep f (0, a, b) y := by
            rw [← HLO.out]; unfold lstep; rw [if_pos (show f y = mxI (f a) (f b) from (beq_iff_eq.1 ht).trans HHI.out.symm)]
          rw [hgy, mid_put m2 hyv] at p1
          go_roundg left.length
          case rel => exact ⟨left.erase y, hlen, m2.erase y, p1, hw3.andThen p2 (fun j hj => by cases hj; exact Or.inr rfl)⟩
          case measure => exact hll
end Go.Proofs.Ytklmckbpbloonaa
