/- Parts of the proof: UnR. -/
import Derived.Test.YtklmckbpbloonaaBC36
import Derived.Test.YtklmckbpbloonaaBC30
import Derived.Test.YtklmckbpbloonaaBC29
import Derived.Test.YtklmckbpbloonaaBC37
namespace Go.Proofs.Ytklmckbpbloonaa

abbrev Gph : Type := List Int × List Edg
def okEnds (vs : List Int) (x : Edg) : Bool := hasB vs x.2.1 && hasB vs x.2.2
def dang (vs : List Int) (es : List Edg) : Option Edg := es.find? fun x => !okEnds vs x
def unL (b o t : Gph) : List Edg := allE b.2 o.2 t.2
def unV (b o t : Gph) : List Int := makeTo id (allL b.1 o.1 t.1) (allL b.1 o.1 t.1).length
def unG (b o t : Gph) : List Edg := makeTo Prod.fst (unL b o t) (unL b o t).length
def unC (b o t : Gph) : Int := clashTo (unL b o t) (unL b o t).length
/-- What three graphs come to. -/
def unR (b o t : Gph) : Gph × Int × Int :=
  if unC b o t ≠ 0 then (([], []), unC b o t, 26) else
  match dang (unV b o t) (unG b o t) with
  | some x => (([], []), x.1, 27)
  | none => if 64 < (unV b o t).length ∨ 160 < (unG b o t).length then (([], []), 0, 6) else ((unV b o t, unG b o t), 0, 0)

theorem chkVs_of : ∀ {vs : List Int} {last : Int}, (∀ v ∈ vs, last < v ∧ 1 ≤ v ∧ v ≤ 1048576) → vs.Pairwise (· < ·) → chkVs last vs = 0
  | [], _, _, _ => rfl
  | v :: vs, last, h, hp => by
    obtain ⟨p1, p2⟩ := List.pairwise_cons.1 hp
    have h0 := h v List.mem_cons_self
    have : chkN last v = 0 := by unfold chkN; rw [if_neg (by omega), if_neg (by omega)]
    rw [chkVs_cons, this, if_neg (by omega)]
    exact chkVs_of (fun x hx => ⟨p1 x hx, (h x (List.mem_cons_of_mem _ hx)).2⟩) p2
theorem chkEs_of : ∀ {es : List Edg} {all : List Int} {last : Int}, (∀ e ∈ es, last < e.1 ∧ (1 ≤ e.1 ∧ e.1 ≤ 1048576) ∧ e.2.1 ≠ e.2.2 ∧ e.2.1 ∈ all ∧ e.2.2 ∈ all) → (es.map (·.1)).Pairwise (· < ·) → chkEs all last es = 0
  | [], _, _, _, _ => rfl
  | e :: es, all, last, h, hp => by
    rw [List.map_cons] at hp
    obtain ⟨p1, p2⟩ := List.pairwise_cons.1 hp
    obtain ⟨h0, h1, h2, h3, h4⟩ := h e List.mem_cons_self
    have hn : chkN last e.1 = 0 := by unfold chkN; rw [if_neg (by omega), if_neg (by omega)]
    have he : chkE all last e = 0 := by
      unfold chkE
      rw [hn, if_neg (by omega), if_neg h2, if_neg]
      rintro (h | h)
      · exact h h3
      · exact h h4
    rw [chkEs_cons, he, if_neg (by omega)]
    exact chkEs_of (fun x hx => ⟨p1 _ (List.mem_map.2 ⟨x, hx, rfl⟩), (h x (List.mem_cons_of_mem _ hx)).2⟩) p2
theorem gcheck_of {vs : List Int} {es : List Edg} (h : Fit vs es) : gcheck vs es = 0 := by
  unfold gcheck
  rw [if_neg (by have := h.nv; have := h.ne; omega), chkVs_of (fun v hv => by have := h.big v hv; omega) h.up, if_neg (by omega)]
  exact chkEs_of (fun e he => ⟨by have := h.ids e he; omega, h.ids e he, h.loop e he, h.ends e he⟩) h.eup


theorem hasE_iff {es : List Edg} {x : Edg} : hasE es x = true ↔ x ∈ es := by simp [hasE]
theorem mem_allL {b o t : List Int} {x : Int} : x ∈ allL b o t ↔ (x ∈ o ∧ (x ∈ t ∨ x ∉ b)) ∨ (x ∈ t ∧ x ∉ o ∧ x ∉ b) := by
  unfold allL
  simp only [List.mem_append, List.mem_filter, pA, pB, Bool.or_eq_true, Bool.and_eq_true, Bool.not_eq_true', hasB_iff, hasB, decide_eq_false_iff_not, decide_eq_true_eq]
theorem mem_allE {b o t : List Edg} {x : Edg} : x ∈ allE b o t ↔ (x ∈ o ∧ (x ∈ t ∨ x ∉ b)) ∨ (x ∈ t ∧ x ∉ o ∧ x ∉ b) := by
  unfold allE
  simp only [List.mem_append, List.mem_filter, pAE, pBE, Bool.or_eq_true, Bool.and_eq_true, Bool.not_eq_true', hasE, decide_eq_false_iff_not, decide_eq_true_eq]
theorem nodup_allE {b o t : List Edg} (ho : o.Nodup) (ht : t.Nodup) : (allE b o t).Nodup := by
  unfold allE
  rw [List.nodup_append]
  refine ⟨ho.filter _, ht.filter _, fun x hx y hy e => ?_⟩
  subst e
  have h1 := (List.mem_filter.1 hx).1
  have h2 := (List.mem_filter.1 hy).2
  simp [pBE, hasE] at h2
  exact h2.1 h1
theorem perm_allE {b o t : List Edg} (ho : o.Nodup) (ht : t.Nodup) : (allE b o t).Perm (allE b t o) := by
  refine (List.perm_ext_iff_of_nodup (nodup_allE ho ht) (nodup_allE ht ho)).2 fun x => ?_
  rw [mem_allE, mem_allE]
  by_cases h1 : x ∈ o <;> by_cases h2 : x ∈ t <;> by_cases h3 : x ∈ b <;> simp [h1, h2, h3]
theorem fit_nodup {vs : List Int} {es : List Edg} (h : Fit vs es) : es.Nodup := by
  refine List.Pairwise.imp ?_ (List.pairwise_map.1 h.eup)
  intro a b hab e
  rw [e] at hab; omega
theorem fit_rise {vs : List Int} {es : List Edg} (h : Fit vs es) : es.Pairwise fun a b => a.1 < b.1 := List.pairwise_map.1 h.eup
theorem fit_keys {vs : List Int} {es : List Edg} (h : Fit vs es) : (es.map Prod.fst).Nodup := by
  refine List.Pairwise.imp ?_ h.eup
  intro a b hab; omega

theorem idsTo_all (es : List Edg) : idsTo es es.length = es.map Prod.fst := by unfold idsTo; rw [List.take_length]
/-- 0 where no number stands twice; else the least that does. -/
theorem clash_is {es : List Edg} (hid : ∀ e ∈ es, 1 ≤ e.1) : ∀ k, k ≤ es.length → 0 ≤ clashTo es k ∧ (clashTo es k = 0 → (idsTo es k).Nodup) ∧ (clashTo es k ≠ 0 → 2 ≤ (idsTo es k).count (clashTo es k) ∧ ∀ d, 2 ≤ (idsTo es k).count d → clashTo es k ≤ d)
  | 0, _ => by simp [clashTo, idsTo]
  | k + 1, hk => by
    obtain ⟨h0, h1, h2⟩ := clash_is hid k (by omega)
    have hx : es[k]? = some es[k] := List.getElem?_eq_getElem (by omega)
    have hx1 := hid es[k] (List.getElem_mem (by omega))
    rw [idsTo_succ hx, clashTo, K_at hx]
    generalize es[k] = x at hx hx1
    have hcx : (idsTo es k).count x.1 ≠ 0 ↔ x.1 ∈ idsTo es k := by
      rw [← List.count_pos_iff]; omega
    have hcnt : ∀ d, (idsTo es k ++ [x.1]).count d = (idsTo es k).count d + if x.1 = d then 1 else 0 := fun d => by
      rw [List.count_append, List.count_singleton]
      by_cases e : x.1 = d
      · simp [e]
      · have : ¬ d = x.1 := fun h => e h.symm
        simp [e]
    by_cases hm : x.1 ∈ idsTo es k
    · have hpos : 0 < (idsTo es k).count x.1 := List.count_pos_iff.2 hm
      by_cases hc : clashTo es k = 0 ∨ x.1 < clashTo es k
      · have hif : (decide (x.1 ∈ idsTo es k) && (decide (clashTo es k = 0) || decide (x.1 < clashTo es k))) = true := by
          rcases hc with hc | hc <;> simp [hm, hc]
        rw [if_pos hif]
        refine ⟨by omega, fun h => by omega, fun _ => ⟨by rw [hcnt]; simp; omega, fun d hd => ?_⟩⟩
        rw [hcnt] at hd
        by_cases e : x.1 = d
        · omega
        · rw [if_neg e] at hd
          rcases hc with hc | hc
          · have := List.nodup_iff_count.1 (h1 hc) d; omega
          · have := (h2 (by omega)).2 d (by omega); omega
      · have hif : ¬ (decide (x.1 ∈ idsTo es k) && (decide (clashTo es k = 0) || decide (x.1 < clashTo es k))) = true := by
          simp only [not_or] at hc
          simp [hc.1, hc.2]
        rw [if_neg hif]
        have hc0 : clashTo es k ≠ 0 := fun h => hc (.inl h)
        obtain ⟨c1, c2⟩ := h2 hc0
        refine ⟨h0, fun h => absurd h hc0, fun _ => ⟨by rw [hcnt]; omega, fun d hd => ?_⟩⟩
        rw [hcnt] at hd
        by_cases e : x.1 = d
        · have : ¬ x.1 < clashTo es k := fun h => hc (.inr h)
          omega
        · rw [if_neg e] at hd; exact c2 d (by omega)
    · have hif : ¬ (decide (x.1 ∈ idsTo es k) && (decide (clashTo es k = 0) || decide (x.1 < clashTo es k))) = true := by simp [hm]
      have hz : (idsTo es k).count x.1 = 0 := List.count_eq_zero.2 hm
      rw [if_neg hif]
      refine ⟨h0, fun h => ?_, fun h => ⟨by rw [hcnt]; have := (h2 h).1; omega, fun d hd => ?_⟩⟩
      · rw [List.nodup_append]
        refine ⟨h1 h, by simp, fun a ha b hb e => ?_⟩
        simp only [List.mem_singleton] at hb
        rw [e, hb] at ha
        exact hm ha
      · rw [hcnt] at hd
        by_cases e : x.1 = d
        · rw [if_pos e, ← e, hz] at hd; omega
        · rw [if_neg e] at hd; exact (h2 h).2 d (by omega)
theorem clash_zero {es : List Edg} (hid : ∀ e ∈ es, 1 ≤ e.1) (h : clashTo es es.length = 0) : (es.map Prod.fst).Nodup := by
  rw [← idsTo_all]; exact (clash_is hid _ (Nat.le_refl _)).2.1 h
theorem clash_none {es : List Edg} (hid : ∀ e ∈ es, 1 ≤ e.1) (h : (es.map Prod.fst).Nodup) : clashTo es es.length = 0 := by
  refine Classical.byContradiction fun hc => ?_
  have h1 := ((clash_is hid _ (Nat.le_refl _)).2.2 hc).1
  rw [idsTo_all] at h1
  have := List.nodup_iff_count.1 h (clashTo es es.length)
  omega
theorem clash_perm {es es' : List Edg} (hid : ∀ e ∈ es, 1 ≤ e.1) (hp : es.Perm es') : clashTo es es.length = clashTo es' es'.length := by
  have hid' : ∀ e ∈ es', 1 ≤ e.1 := fun e he => hid e (hp.mem_iff.2 he)
  have hk := hp.map Prod.fst
  by_cases h : clashTo es es.length = 0
  · rw [h, clash_none hid' (hk.nodup_iff.1 (clash_zero hid h))]
  · have h' : clashTo es' es'.length ≠ 0 := fun e => h (clash_none hid (hk.nodup_iff.2 (clash_zero hid' e)))
    have a := (clash_is hid _ (Nat.le_refl _)).2.2 h
    have b := (clash_is hid' _ (Nat.le_refl _)).2.2 h'
    rw [idsTo_all] at a b
    have c1 := a.2 _ (by rw [hk.count_eq]; exact b.1)
    have c2 := b.2 _ (by rw [← hk.count_eq]; exact a.1)
    omega

section
variable {b o t : Gph}
theorem unL_ids (ho : Fit o.1 o.2) (ht : Fit t.1 t.2) : ∀ e ∈ unL b o t, 1 ≤ e.1 := fun e he => by
  rcases mem_allE.1 he with h | h
  · exact (ho.ids e h.1).1
  · exact (ht.ids e h.1).1
theorem unV_mem {x : Int} : x ∈ unV b o t ↔ x ∈ allL b.1 o.1 t.1 := makeTo_mem
theorem unG_perm (ho : Fit o.1 o.2) (ht : Fit t.1 t.2) (hc : unC b o t = 0) : (unG b o t).Perm (unL b o t) := makeTo_perm (clash_zero (unL_ids ho ht) hc)
/-- What comes of graphs that may be may be. -/
theorem unR_fit (ho : Fit o.1 o.2) (ht : Fit t.1 t.2) (h : (unR b o t).2.2 = 0) : gcheck (unR b o t).1.1 (unR b o t).1.2 = 0 := by
  refine gcheck_of ?_
  unfold unR at h ⊢
  split at h
  · simp at h
  · rename_i hc
    rw [if_neg hc]
    have hc0 : unC b o t = 0 := Classical.byContradiction hc
    have hp := unG_perm ho ht hc0
    split at h
    · simp at h
    · rename_i hd
      split at h
      · simp at h
      · rename_i hl
        simp only [if_neg hl]
        have hE : ∀ e ∈ unG b o t, e ∈ o.2 ∨ e ∈ t.2 := fun e he => by
          rcases mem_allE.1 (hp.mem_iff.1 he) with q | q
          · exact .inl q.1
          · exact .inr q.1
        refine ⟨by omega, by omega, makeTo_pair id _ _, fun v hv => ?_, fun e he => ?_, fun e he => ?_, fun e he => ?_, List.pairwise_map.2 (makeTo_pair Prod.fst _ _)⟩
        · rcases mem_allL.1 (unV_mem.1 hv) with q | q
          · exact ho.big v q.1
          · exact ht.big v q.1
        · have := List.find?_eq_none.1 hd e he
          simpa [okEnds, hasB] using this
        · rcases hE e he with q | q
          · exact ho.loop e q
          · exact ht.loop e q
        · rcases hE e he with q | q
          · exact ho.ids e q
          · exact ht.ids e q
theorem unV_swap : unV b o t = unV b t o := by
  refine rise_eq (makeTo_pair id _ _) (makeTo_pair id _ _) fun x => ?_
  rw [unV_mem, unV_mem, mem_allL, mem_allL]
  by_cases h1 : x ∈ o.1 <;> by_cases h2 : x ∈ t.1 <;> by_cases h3 : x ∈ b.1 <;> simp [h1, h2, h3]
/-- Ours and theirs can be taken for one another. -/
theorem unR_swap (ho : Fit o.1 o.2) (ht : Fit t.1 t.2) : unR b o t = unR b t o := by
  have hL : (unL b o t).Perm (unL b t o) := perm_allE (fit_nodup ho) (fit_nodup ht)
  have hC : unC b o t = unC b t o := clash_perm (unL_ids ho ht) hL
  unfold unR
  rw [← hC, unV_swap]
  by_cases hc : unC b o t = 0
  · have hG : unG b o t = unG b t o := rise_unique (makeTo_pair Prod.fst _ _) (makeTo_pair Prod.fst _ _) ((unG_perm ho ht hc).trans (hL.trans (unG_perm ht ho (hC ▸ hc)).symm))
    rw [hG]
  · rw [if_pos hc, if_pos hc]
/-- What has just the members of a graph that may be is it. -/
theorem unR_is {g : Gph} (hg : Fit g.1 g.2) (hV : ∀ x, x ∈ allL b.1 o.1 t.1 ↔ x ∈ g.1) (hE : (unL b o t).Perm g.2) : unR b o t = (g, 0, 0) := by
  have hk : ((unL b o t).map Prod.fst).Nodup := (hE.map Prod.fst).nodup_iff.2 (fit_keys hg)
  have hid : ∀ e ∈ unL b o t, 1 ≤ e.1 := fun e he => (hg.ids e (hE.mem_iff.1 he)).1
  have hc : unC b o t = 0 := clash_none hid hk
  have e1 : unV b o t = g.1 := rise_eq (makeTo_pair id _ _) hg.up fun x => by rw [unV_mem]; exact hV x
  have e2 : unG b o t = g.2 := rise_unique (makeTo_pair Prod.fst _ _) (fit_rise hg) ((makeTo_perm hk).trans hE)
  have hd : dang g.1 g.2 = none := List.find?_eq_none.2 fun e he => by have := hg.ends e he; simp [okEnds, hasB, this.1, this.2]
  unfold unR
  rw [if_neg (by omega), e1, e2, hd]
  simp only
  rw [if_neg (by have := hg.nv; have := hg.ne; omega)]
/-- Where theirs is base it is ours. -/
theorem unR_ours (hb : Fit b.1 b.2) (ho : Fit o.1 o.2) : unR b o b = (o, 0, 0) := by
  refine unR_is ho (fun x => ?_) ?_
  · rw [mem_allL]
    by_cases h1 : x ∈ o.1 <;> by_cases h3 : x ∈ b.1 <;> simp [h1, h3]
  · refine (List.perm_ext_iff_of_nodup (nodup_allE (fit_nodup ho) (fit_nodup hb)) (fit_nodup ho)).2 fun x => ?_
    rw [mem_allE]
    by_cases h1 : x ∈ o.2 <;> by_cases h3 : x ∈ b.2 <;> simp [h1, h3]
/-- Where ours is base it is theirs. -/
theorem unR_theirs (hb : Fit b.1 b.2) (ht : Fit t.1 t.2) : unR b b t = (t, 0, 0) := by
  refine unR_is ht (fun x => ?_) ?_
  · rw [mem_allL]
    by_cases h1 : x ∈ t.1 <;> by_cases h3 : x ∈ b.1 <;> simp [h1, h3]
  · refine (List.perm_ext_iff_of_nodup (nodup_allE (fit_nodup hb) (fit_nodup ht)) (fit_nodup ht)).2 fun x => ?_
    rw [mem_allE]
    by_cases h1 : x ∈ t.2 <;> by_cases h3 : x ∈ b.2 <;> simp [h1, h3]
end
end Go.Proofs.Ytklmckbpbloonaa
