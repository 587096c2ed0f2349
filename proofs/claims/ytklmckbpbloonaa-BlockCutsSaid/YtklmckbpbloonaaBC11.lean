/- Parts of the proof: Held. -/
import Derived.Test.YtklmckbpbloonaaBC1
import Derived.Deep.RegionHeld3
namespace Go.Proofs.Ytklmckbpbloonaa
open Go.RowKit

section
variable {P : Program} {ops : Array Oper} {Q : Exit → Act → World → Prop} {md : Region.Mode} {S : World → Prop} {fuel : Nat} {listed : Array Bool} {a : Act} {w : World}
theorem held_take (i d : Nat) (v : Value) {oi : Oper} (hi : ops[i]? = some oi) (hd : oi.dst = some d) (hw : Region.wanted oi (yielded ops a.tmps) = true)
    (hs : Region.noSelect ops = true) (hf : Region.free md ops listed i = true) (hr : (Region.ready md ops listed).contains i = true)
    (hQ : ∀ c (a : Act) t w, Q (.panic c) { a with tmps := t } w → Q (.panic c) a w) (hy : ∀ W, S W → (execOp a.eval oi).run P W = .ok (.value v) W) (hS : S w)
    (h : wpAnyH P md ops Q S fuel (listed.setIfInBounds i true) { a with tmps := a.tmps.setIfInBounds d v } w) : wpAnyH P md ops Q S (fuel + 1) listed a w := by
  refine wpAnyH_take hi hs hf hr (fun c a w h => hQ c a _ w (by rw [hd] at h; exact h)) (Or.inl ⟨hw, hy⟩) hS ?_
  rw [hd]
  exact h
/-- An operation that is not wanted (its guard is false). -/
theorem held_skip (i d : Nat) {oi : Oper} (hi : ops[i]? = some oi) (hd : oi.dst = some d) (hw : Region.wanted oi (yielded ops a.tmps) = false)
    (hs : Region.noSelect ops = true) (hf : Region.free md ops listed i = true) (hr : (Region.ready md ops listed).contains i = true)
    (hQ : ∀ c (a : Act) t w, Q (.panic c) { a with tmps := t } w → Q (.panic c) a w) (hS : S w)
    (h : wpAnyH P md ops Q S fuel (listed.setIfInBounds i true) { a with tmps := a.tmps.setIfInBounds d undef } w) : wpAnyH P md ops Q S (fuel + 1) listed a w := by
  refine wpAnyH_take hi hs hf hr (fun c a w h => hQ c a _ w (by rw [hd] at h; exact h)) (Or.inr ⟨hw, rfl⟩) hS ?_
  rw [hd]
  exact h
/-- A call that alone may come up next. -/
theorem held_call (i d : Nat) (f : FuncId) (args : Array Value) {oi : Oper} (hi : ops[i]? = some oi) (hd : oi.dst = some d) (hw : Region.wanted oi (yielded ops a.tmps) = true)
    (hr : Region.ready md ops listed = [i]) (he : ∀ W, (execOp a.eval oi).run P W = .ok (.enter f args) W)
    (hc : Calls P f args w fun e w' => ∃ v, e = .returned v ∧ S w' ∧ wpAnyH P md ops Q S fuel (listed.setIfInBounds i true) { a with tmps := a.tmps.setIfInBounds d v } w') : wpAnyH P md ops Q S (fuel + 1) listed a w := by
  refine wpAnyH_ready (rs := [i]) hr (by simp) (AllReadyH.cons hi (fun K hK => ?_) AllReadyH.nil)
  rw [if_pos hw]
  unfold Oper.wp
  rw [he]
  refine hc.mono ?_
  rintro e w' ⟨v, rfl, h1, h2⟩
  refine hK.out _ _ h1 (fun _ => ?_)
  rw [hd]
  exact h2
/-- An operation that alone may come up next, and yields in this world. -/
theorem held_one (i d : Nat) (v : Value) {oi : Oper} (hi : ops[i]? = some oi) (hd : oi.dst = some d) (hw : Region.wanted oi (yielded ops a.tmps) = true)
    (hr : Region.ready md ops listed = [i]) (hy : (execOp a.eval oi).run P w = .ok (.value v) w) (hS : S w)
    (h : wpAnyH P md ops Q S fuel (listed.setIfInBounds i true) { a with tmps := a.tmps.setIfInBounds d v } w) : wpAnyH P md ops Q S (fuel + 1) listed a w := by
  refine wpAnyH_ready (rs := [i]) hr (by simp) (AllReadyH.cons hi (fun K hK => ?_) AllReadyH.nil)
  rw [if_pos hw]
  unfold Oper.wp
  rw [hy]
  refine hK.out _ _ hS (fun _ => ?_)
  rw [hd]
  exact h
/-- Two operations that may come up next, and no other; each yields in this world, ahead of the other one and behind it. -/
theorem held_two (i j di dj : Nat) (vi vj : Value) {oi oj : Oper} (hi : ops[i]? = some oi) (hj : ops[j]? = some oj) (hdi : oi.dst = some di) (hdj : oj.dst = some dj)
    (hne : i ≠ j) (hde : di ≠ dj) (hwi : Region.wanted oi (yielded ops a.tmps) = true) (hwj : Region.wanted oj (yielded ops a.tmps) = true)
    (hwi' : Region.wanted oi (yielded ops (a.tmps.setIfInBounds dj vj)) = true) (hwj' : Region.wanted oj (yielded ops (a.tmps.setIfInBounds di vi)) = true)
    (hr : Region.ready md ops listed = [i, j]) (hri : Region.ready md ops (listed.setIfInBounds i true) = [j]) (hrj : Region.ready md ops (listed.setIfInBounds j true) = [i])
    (hyi : (execOp a.eval oi).run P w = .ok (.value vi) w) (hyj : (execOp a.eval oj).run P w = .ok (.value vj) w)
    (hyi' : (execOp ({ a with tmps := a.tmps.setIfInBounds dj vj } : Act).eval oi).run P w = .ok (.value vi) w) (hyj' : (execOp ({ a with tmps := a.tmps.setIfInBounds di vi } : Act).eval oj).run P w = .ok (.value vj) w) (hS : S w)
    (h : wpAnyH P md ops Q S fuel ((listed.setIfInBounds i true).setIfInBounds j true) { a with tmps := (a.tmps.setIfInBounds di vi).setIfInBounds dj vj } w) : wpAnyH P md ops Q S (fuel + 2) listed a w := by
  refine wpAnyH_ready (rs := [i, j]) hr (by simp) (AllReadyH.cons hi (fun K hK => ?_) (AllReadyH.cons hj (fun K hK => ?_) AllReadyH.nil))
  · rw [if_pos hwi]
    unfold Oper.wp
    rw [hyi]
    refine hK.out _ _ hS (fun _ => ?_)
    rw [hdi]
    exact held_one j dj vj hj hdj hwj' hri hyj' hS h
  · rw [if_pos hwj]
    unfold Oper.wp
    rw [hyj]
    refine hK.out _ _ hS (fun _ => ?_)
    rw [hdj]
    refine held_one i di vi hi hdi hwi' hrj hyi' hS ?_
    rw [Array.setIfInBounds_comm _ _ hne.symm]
    have e : ((a.put (some dj) vj).tmps.setIfInBounds di vi) = (a.tmps.setIfInBounds di vi).setIfInBounds dj vj := Array.setIfInBounds_comm _ _ hde.symm
    rw [e]
    exact h
/-- What is held may become more on the way. -/
theorem held_more {S' : World → Prop} (hSS : ∀ W, S' W → S W) : ∀ {fuel : Nat} {listed : Array Bool} {a : Act} {w : World}, wpAnyH P md ops Q S' fuel listed a w → wpAnyH P md ops Q S fuel listed a w
  | 0, _, _, _, h => h
  | _ + 1, _, _, _, h => ⟨h.1, fun i hi => wpOp_mono (fun _ _ h' => ⟨hSS _ h'.1, held_more hSS h'.2⟩) (h.2 i hi)⟩
end
end Go.Proofs.Ytklmckbpbloonaa
