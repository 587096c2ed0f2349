/- Parts of the proof: BkP. -/
import Derived.Test.YtklmckbpbloonaaBC31
import Derived.Test.YtklmckbpbloonaaBC32
namespace Go.Proofs.Ytklmckbpbloonaa

/-- A row's numbers are told to be of part i. -/
def pmRow (i : Int) (m : List (Int × Int)) (l : List Int) (j : Nat) : List (Int × Int) := (l.take j).foldl (fun m w => mput m w i) m
def pmTo (ps : List (List Int)) : Nat → List (Int × Int)
  | 0 => []
  | k + 1 => match ps[k]? with
    | some l => pmRow k (pmTo ps k) l l.length
    | none => pmTo ps k
theorem pmRow_succ {i : Int} {m : List (Int × Int)} {l : List Int} {j : Nat} {x : Int} (h : l[j]? = some x) : pmRow i m l (j + 1) = mput (pmRow i m l j) x i := by
  unfold pmRow; rw [List.take_add_one, h]; simp
theorem pmTo_succ {ps : List (List Int)} {k : Nat} {l : List Int} (h : ps[k]? = some l) : pmTo ps (k + 1) = pmRow k (pmTo ps k) l l.length := by
  rw [pmTo, h]
theorem pmRow_get (i : Int) (m : List (Int × Int)) (l : List Int) : ∀ j, ∀ w, mget (pmRow i m l j) w = if w ∈ l.take j then some i else mget m w
  | 0, w => by simp [pmRow]
  | j + 1, w => by
    cases h : l[j]? with
    | none =>
      have e : l.take (j + 1) = l.take j := by rw [List.take_add_one, h]; simp
      have := pmRow_get i m l j w
      unfold pmRow at this ⊢
      rw [e]; exact this
    | some x =>
      rw [pmRow_succ h, mget_mput, pmRow_get i m l j w, List.take_add_one, h]
      by_cases e : w = x
      · simp [e]
      · simp [e]
theorem pmTo_get (ps : List (List Int)) : ∀ k, (∀ w i, mget (pmTo ps k) w = some i → ∃ (j : Nat) (l : List Int), j < k ∧ i = j ∧ ps[j]? = some l ∧ w ∈ l) ∧ (∀ (j : Nat) (l : List Int) (w : Int), j < k → ps[j]? = some l → w ∈ l → (mget (pmTo ps k) w).isSome = true)
  | 0 => ⟨fun w i h => by simp [pmTo, mget] at h, fun j l w hj => absurd hj (by omega)⟩
  | k + 1 => by
    obtain ⟨h1, h2⟩ := pmTo_get ps k
    cases h : ps[k]? with
    | none =>
      have e : pmTo ps (k + 1) = pmTo ps k := by rw [pmTo, h]
      rw [e]
      refine ⟨fun w i hw => ?_, fun j l w hj hl hm => ?_⟩
      · obtain ⟨j, l, a, b⟩ := h1 w i hw
        exact ⟨j, l, by omega, b⟩
      · refine h2 j l w ?_ hl hm
        rcases Nat.lt_or_ge j k with hlt | hge
        · exact hlt
        · have : j = k := by omega
          rw [this, h] at hl; cases hl
    | some l =>
      rw [pmTo_succ h]
      have hg := pmRow_get k (pmTo ps k) l l.length
      rw [List.take_length] at hg
      refine ⟨fun w i hw => ?_, fun j l' w hj hl hm => ?_⟩
      · rw [hg] at hw
        split at hw
        · rename_i hm
          injection hw with hw
          exact ⟨k, l, by omega, hw.symm, h, hm⟩
        · obtain ⟨j, l', a, b⟩ := h1 w i hw
          exact ⟨j, l', by omega, b⟩
      · rw [hg]
        split
        · rfl
        · rename_i hn
          refine h2 j l' w ?_ hl hm
          rcases Nat.lt_or_ge j k with hlt | hge
          · exact hlt
          · have : j = k := by omega
            rw [this, h] at hl
            injection hl with hl
            rw [← hl] at hm
            exact absurd hm hn
/-- One edge at a vertex: it is joined to the first one whose other end lies in the same part; or it is that first one. -/
def jStep (pm : List (Int × Int)) (v : Int) (s : List (Int × Int) × List Edg) (x : Edg) : List (Int × Int) × List Edg :=
  if otherV x v = 0 then s else
  match mget s.1 ((mget pm (otherV x v)).getD 0) with
  | some id => (s.1, s.2 ++ [(0, id, x.1)])
  | none => (mput s.1 ((mget pm (otherV x v)).getD 0) x.1, s.2)
def jTo (pm : List (Int × Int)) (v : Int) (es : List Edg) (js : List Edg) (k : Nat) : List (Int × Int) × List Edg := (es.take k).foldl (jStep pm v) ([], js)
theorem jTo_succ {pm : List (Int × Int)} {v : Int} {es js : List Edg} {k : Nat} {x : Edg} (h : es[k]? = some x) : jTo pm v es js (k + 1) = jStep pm v (jTo pm v es js k) x := by
  unfold jTo; rw [List.take_add_one, h]; simp
theorem jStep_off {pm : List (Int × Int)} {v : Int} {s : List (Int × Int) × List Edg} {x : Edg} (h : otherV x v = 0) : jStep pm v s x = s := by unfold jStep; rw [if_pos h]
theorem jStep_old {pm : List (Int × Int)} {v : Int} {s : List (Int × Int) × List Edg} {x : Edg} {id : Int} (h : otherV x v ≠ 0) (hm : mget s.1 ((mget pm (otherV x v)).getD 0) = some id) : jStep pm v s x = (s.1, s.2 ++ [(0, id, x.1)]) := by unfold jStep; rw [if_neg h, hm]
theorem jStep_new {pm : List (Int × Int)} {v : Int} {s : List (Int × Int) × List Edg} {x : Edg} (h : otherV x v ≠ 0) (hm : mget s.1 ((mget pm (otherV x v)).getD 0) = none) : jStep pm v s x = (mput s.1 ((mget pm (otherV x v)).getD 0) x.1, s.2) := by unfold jStep; rw [if_neg h, hm]
def psOf (vs : List Int) (es : List Edg) (v : Int) : List (List Int) := partsTo (lessV vs v) (lessE es v) (lessV vs v).length
def pmOf (vs : List Int) (es : List Edg) (v : Int) : List (Int × Int) := pmTo (psOf vs es v) (psOf vs es v).length
/-- What is joined behind k vertices. -/
def jsTo (vs : List Int) (es : List Edg) : Nat → List Edg
  | 0 => []
  | k + 1 => match vs[k]? with
    | some v => (jTo (pmOf vs es v) v es (jsTo vs es k) es.length).2
    | none => jsTo vs es k
theorem jsTo_succ {vs : List Int} {es : List Edg} {k : Nat} {v : Int} (h : vs[k]? = some v) : jsTo vs es (k + 1) = (jTo (pmOf vs es v) v es (jsTo vs es k) es.length).2 := by rw [jsTo, h]
def ids (es : List Edg) : List Int := es.map (·.1)
/-- The first ones at a vertex are edges that were gone through; the pairs, too. -/
theorem jTo_ids {pm : List (Int × Int)} {v : Int} {es js : List Edg} (hjs : ∀ e ∈ js, e.2.1 ∈ ids es ∧ e.2.2 ∈ ids es) : ∀ k, (∀ i id, mget (jTo pm v es js k).1 i = some id → id ∈ ids es) ∧ (∀ e ∈ (jTo pm v es js k).2, e.2.1 ∈ ids es ∧ e.2.2 ∈ ids es)
  | 0 => ⟨fun i id h => by simp [jTo, mget] at h, fun e he => hjs e (by simpa [jTo] using he)⟩
  | k + 1 => by
    obtain ⟨h1, h2⟩ := jTo_ids hjs k
    cases h : es[k]? with
    | none =>
      have e : jTo pm v es js (k + 1) = jTo pm v es js k := by unfold jTo; rw [List.take_add_one, h]; simp
      rw [e]; exact ⟨h1, h2⟩
    | some x =>
      have hx : x.1 ∈ ids es := List.mem_map.2 ⟨x, List.mem_of_getElem? h, rfl⟩
      rw [jTo_succ h]
      by_cases h0 : otherV x v = 0
      · rw [jStep_off h0]; exact ⟨h1, h2⟩
      · cases hm : mget (jTo pm v es js k).1 ((mget pm (otherV x v)).getD 0) with
        | none =>
          rw [jStep_new h0 hm]
          refine ⟨fun i id hi => ?_, h2⟩
          rw [mget_mput] at hi
          split at hi
          · injection hi with hi; rw [← hi]; exact hx
          · exact h1 i id hi
        | some id =>
          rw [jStep_old h0 hm]
          refine ⟨h1, fun e he => ?_⟩
          rcases List.mem_append.1 he with he | he
          · exact h2 e he
          · simp only [List.mem_singleton] at he
            rw [he]; exact ⟨h1 _ _ hm, hx⟩
theorem jsTo_ids (vs : List Int) (es : List Edg) : ∀ k, ∀ e ∈ jsTo vs es k, e.2.1 ∈ ids es ∧ e.2.2 ∈ ids es
  | 0 => fun e he => by cases he
  | k + 1 => by
    cases h : vs[k]? with
    | none => rw [jsTo, h]; exact jsTo_ids vs es k
    | some v => rw [jsTo_succ h]; exact (jTo_ids (jsTo_ids vs es k) es.length).2
theorem lab_join (js : List Edg) (a b : Int) : lstep (lab js) (0, a, b) = lab (js ++ [(0, a, b)]) := (labF_append js (0, a, b) id).symm
/-- All that is joined; an edge's class; the blocks. -/
def joinsL (vs : List Int) (es : List Edg) : List Edg := jsTo vs es vs.length
def clsL (vs : List Int) (es : List Edg) : Int → Int := lab (joinsL vs es)
def blockL (vs : List Int) (es : List Edg) (r : Int) : List Edg := es.filter fun x => clsL vs es x.1 == r
def rootsL (vs : List Int) (es : List Edg) : List Int := (ids es).filter fun r => clsL vs es r == r
def blocksL (vs : List Int) (es : List Edg) : List (List Edg) := (rootsL vs es).map (blockL vs es)
theorem cls_le (vs : List Int) (es : List Edg) (r : Int) : clsL vs es r ≤ r := lab_le _ _
theorem cls_cls (vs : List Int) (es : List Edg) (r : Int) : clsL vs es (clsL vs es r) = clsL vs es r := lab_lab _ _
theorem cls_mem {vs : List Int} {es : List Edg} {r : Int} (h : r ∈ ids es) : clsL vs es r ∈ ids es := lab_mem (jsTo_ids vs es vs.length) h
theorem cls_root {vs : List Int} {es : List Edg} {r : Int} (h : r ∈ ids es) : clsL vs es r ∈ rootsL vs es := List.mem_filter.2 ⟨cls_mem h, by simp [cls_cls]⟩
/-- Of edges whose numbers rise, a block's first one bears its number. -/
theorem block_head {vs : List Int} {es : List Edg} (hs : (es.map (·.1)).Pairwise (· < ·)) {r : Int} (hr : r ∈ rootsL vs es) : ((blockL vs es r).map (·.1))[0]? = some r := by
  obtain ⟨h1, h2⟩ := List.mem_filter.1 hr
  have h2' : clsL vs es r = r := by simpa using h2
  refine head_of_min ?_ ?_ fun x hx => ?_
  · rw [List.pairwise_map]
    exact (List.pairwise_map.1 hs).sublist List.filter_sublist
  · obtain ⟨e, he, e1⟩ := List.mem_map.1 h1
    exact List.mem_map.2 ⟨e, List.mem_filter.2 ⟨he, by rw [e1]; exact h2⟩, e1⟩
  · obtain ⟨e, he, e1⟩ := List.mem_map.1 hx
    have h3 := (List.mem_filter.1 he).2
    have h4 : clsL vs es e.1 = r := by simpa using h3
    have := cls_le vs es e.1
    rw [← e1]; omega
end Go.Proofs.Ytklmckbpbloonaa
