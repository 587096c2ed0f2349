/- Parts of the proof: UnQ. -/
import Derived.Test.YtklmckbpbloonaaBC35
import Derived.Test.YtklmckbpbloonaaBC28
namespace Go.Proofs.Ytklmckbpbloonaa

section
variable {α : Type}
def stepK (key : α → Int) (v : α) (s : List α × Bool) (x : α) : List α × Bool := if !s.2 && decide (key v < key x) then (s.1 ++ [v, x], true) else (s.1 ++ [x], s.2)
def insS (key : α → Int) (v : α) : List α → List α
  | [] => [v]
  | x :: l => if key v < key x then v :: x :: l else x :: insS key v l
def finK (v : α) (s : List α × Bool) : List α := if s.2 then s.1 else s.1 ++ [v]
theorem stepK_true (key : α → Int) (v : α) : ∀ (l pre : List α), l.foldl (stepK key v) (pre, true) = (pre ++ l, true)
  | [], pre => by simp
  | x :: l, pre => by
    rw [List.foldl_cons]
    have : stepK key v (pre, true) x = (pre ++ [x], true) := by simp [stepK]
    rw [this, stepK_true key v l]; simp
theorem stepK_false (key : α → Int) (v : α) : ∀ (l pre : List α), finK v (l.foldl (stepK key v) (pre, false)) = pre ++ insS key v l
  | [], pre => by simp [finK, insS]
  | x :: l, pre => by
    rw [List.foldl_cons]
    by_cases h : key v < key x
    · have : stepK key v (pre, false) x = (pre ++ [v, x], true) := by simp [stepK, h]
      rw [this, stepK_true]; simp [finK, insS, h]
    · have : stepK key v (pre, false) x = (pre ++ [x], false) := by simp [stepK, h]
      rw [this, stepK_false key v l]; simp [insS, h]
/-- Of the first k of a row: those, with v in its place, if it has one there; whether it is in. -/
def insTo (key : α → Int) (l : List α) (v : α) (k : Nat) : List α × Bool := (l.take k).foldl (stepK key v) ([], decide (key v ∈ l.map key))
theorem insTo_succ {key : α → Int} {l : List α} {v x : α} {k : Nat} (h : l[k]? = some x) : insTo key l v (k + 1) = stepK key v (insTo key l v k) x := by
  unfold insTo
  rw [List.take_add_one, h]
  simp
theorem insTo_zero (key : α → Int) (l : List α) (v : α) : insTo key l v 0 = ([], decide (key v ∈ l.map key)) := by simp [insTo]
def putK (key : α → Int) (l : List α) (v : α) : List α := if key v ∈ l.map key then l else insS key v l
theorem insTo_all {key : α → Int} {l : List α} {v : α} {n : Nat} (hn : l.length = n) : finK v (insTo key l v n) = putK key l v := by
  subst hn
  unfold insTo putK
  rw [List.take_length]
  by_cases h : key v ∈ l.map key
  · rw [if_pos h, decide_eq_true h, stepK_true]; simp [finK]
  · rw [if_neg h, decide_eq_false h, stepK_false]; simp
theorem insS_perm (key : α → Int) (v : α) : ∀ l : List α, (insS key v l).Perm (v :: l)
  | [] => List.Perm.refl _
  | x :: l => by
    unfold insS
    split
    · exact List.Perm.refl _
    · exact ((insS_perm key v l).cons x).trans (List.Perm.swap v x l)
theorem insS_pair (key : α → Int) (v : α) : ∀ {l : List α}, l.Pairwise (fun a b => key a < key b) → key v ∉ l.map key → (insS key v l).Pairwise fun a b => key a < key b
  | [], _, _ => by simp [insS]
  | x :: l, h, hv => by
    obtain ⟨h1, h2⟩ := List.pairwise_cons.1 h
    simp only [List.map_cons, List.mem_cons, not_or] at hv
    unfold insS
    split
    · rename_i hlt
      exact List.pairwise_cons.2 ⟨fun y hy => by
        rcases List.mem_cons.1 hy with e | e
        · rw [e]; exact hlt
        · have := h1 y e; omega, h⟩
    · rename_i hlt
      refine List.pairwise_cons.2 ⟨fun y hy => ?_, insS_pair key v h2 hv.2⟩
      rcases List.mem_cons.1 ((insS_perm key v l).mem_iff.1 hy) with e | e
      · rw [e]; have := hv.1; omega
      · exact h1 y e
def makeTo (key : α → Int) (vs : List α) (k : Nat) : List α := (vs.take k).foldl (putK key) []
theorem makeTo_succ {key : α → Int} {vs : List α} {x : α} {k : Nat} (h : vs[k]? = some x) : makeTo key vs (k + 1) = putK key (makeTo key vs k) x := by
  unfold makeTo
  rw [List.take_add_one, h]
  simp
theorem putK_pair {key : α → Int} {l : List α} {v : α} (h : l.Pairwise fun a b => key a < key b) : (putK key l v).Pairwise fun a b => key a < key b := by
  unfold putK
  split
  · exact h
  · rename_i hn; exact insS_pair key v h hn
theorem foldl_pair {key : α → Int} : ∀ (vs l : List α), l.Pairwise (fun a b => key a < key b) → (vs.foldl (putK key) l).Pairwise fun a b => key a < key b
  | [], _, h => h
  | _ :: vs, _, h => foldl_pair vs _ (putK_pair h)
theorem makeTo_pair (key : α → Int) (vs : List α) (k : Nat) : (makeTo key vs k).Pairwise fun a b => key a < key b := foldl_pair _ _ List.Pairwise.nil
theorem putK_len (key : α → Int) (l : List α) (v : α) : (putK key l v).length ≤ l.length + 1 := by
  unfold putK
  split
  · omega
  · rw [(insS_perm key v l).length_eq]; simp
theorem foldl_len {key : α → Int} : ∀ (vs l : List α), (vs.foldl (putK key) l).length ≤ l.length + vs.length
  | [], _ => by simp
  | v :: vs, l => by
    have h1 := foldl_len (key := key) vs (putK key l v)
    have h2 := putK_len key l v
    simp only [List.foldl_cons, List.length_cons]; omega
theorem makeTo_len (key : α → Int) (vs : List α) (k : Nat) : (makeTo key vs k).length ≤ k := by
  have h := foldl_len (key := key) (vs.take k) []
  have h2 := List.length_take_le k vs
  unfold makeTo; simp at h; omega
theorem putK_perm {key : α → Int} {l : List α} {v : α} (h : key v ∉ l.map key) : (putK key l v).Perm (v :: l) := by
  unfold putK; rw [if_neg h]; exact insS_perm key v l
theorem foldl_perm {key : α → Int} : ∀ (vs l : List α), ((l ++ vs).map key).Nodup → (vs.foldl (putK key) l).Perm (l ++ vs)
  | [], l, _ => by simp
  | v :: vs, l, h => by
    have hv : key v ∉ l.map key := by
      rw [List.map_append, List.map_cons, List.nodup_append] at h
      intro hm
      exact h.2.2 _ hm _ List.mem_cons_self rfl
    have hp := putK_perm hv
    have h1 : (putK key l v ++ vs).Perm (l ++ v :: vs) := (hp.append_right vs).trans List.perm_middle.symm
    rw [List.foldl_cons]
    exact (foldl_perm vs _ ((h1.map key).nodup_iff.2 h)).trans h1
theorem makeTo_perm {key : α → Int} {vs : List α} (h : (vs.map key).Nodup) : (makeTo key vs vs.length).Perm vs := by
  have := foldl_perm vs [] (key := key) (by simpa using h)
  unfold makeTo; rw [List.take_length]; simpa using this
end
theorem putK_mem {l : List Int} {v x : Int} : x ∈ putK id l v ↔ x = v ∨ x ∈ l := by
  unfold putK
  split
  · rename_i h
    rw [List.map_id] at h
    constructor
    · exact .inr
    · rintro (e | e)
      · rw [e]; exact h
      · exact e
  · rw [(insS_perm id v l).mem_iff, List.mem_cons]
theorem foldl_mem : ∀ (vs l : List Int) {x : Int}, x ∈ vs.foldl (putK id) l ↔ x ∈ vs ∨ x ∈ l
  | [], l, x => by simp
  | v :: vs, l, x => by
    rw [List.foldl_cons, foldl_mem vs, putK_mem, List.mem_cons]
    constructor
    · rintro (h | h | h)
      · exact .inl (.inr h)
      · exact .inl (.inl h)
      · exact .inr h
    · rintro ((h | h) | h)
      · exact .inr (.inl h)
      · exact .inl h
      · exact .inr (.inr h)
theorem makeTo_mem {vs : List Int} {x : Int} : x ∈ makeTo id vs vs.length ↔ x ∈ vs := by
  unfold makeTo; rw [List.take_length, foldl_mem]; simp
theorem rise_eq : ∀ {l l' : List Int}, l.Pairwise (· < ·) → l'.Pairwise (· < ·) → (∀ x, x ∈ l ↔ x ∈ l') → l = l'
  | [], [], _, _, _ => rfl
  | [], b :: l', _, _, h => by have := (h b).2 List.mem_cons_self; simp at this
  | a :: l, [], _, _, h => by have := (h a).1 List.mem_cons_self; simp at this
  | a :: l, b :: l', h1, h2, h => by
    have p1 := List.pairwise_cons.1 h1
    have p2 := List.pairwise_cons.1 h2
    have e : a = b := by
      rcases List.mem_cons.1 ((h a).1 List.mem_cons_self) with e | e
      · exact e
      · rcases List.mem_cons.1 ((h b).2 List.mem_cons_self) with e' | e'
        · exact e'.symm
        · have := p1.1 b e'; have := p2.1 a e; omega
    subst e
    rw [rise_eq p1.2 p2.2 fun x => ?_]
    have := h x
    simp only [List.mem_cons] at this
    constructor
    · intro hx
      rcases this.1 (.inr hx) with e | e
      · have := p1.1 x hx; omega
      · exact e
    · intro hx
      rcases this.2 (.inr hx) with e | e
      · have := p2.1 x hx; omega
      · exact e
theorem cpL_pair {xs : List Int} (h : xs.Pairwise (· ≤ ·)) : (cpL xs).Pairwise (· < ·) := by
  unfold cpL Lib.compactUpTo
  rw [List.pairwise_map, List.pairwise_filter]
  have hr : (List.range xs.toArray.size).Pairwise (· < ·) := List.pairwise_lt_range
  refine List.Pairwise.imp_of_mem (fun {i j} hi hj hij _ hk => ?_) hr
  have hi' : i < xs.length := by simpa using hi
  have hj' : j < xs.length := by simpa using hj
  have hle : ∀ a b, a ≤ b → (hb : b < xs.length) → xs[a]! ≤ xs[b]! := fun a b hab hb => by
    rcases Nat.lt_or_ge a b with hl | hg
    · have := List.pairwise_iff_getElem.1 h a b (by omega) hb hl
      rw [getElem!_pos xs a (by omega), getElem!_pos xs b hb]; exact this
    · have : a = b := by omega
      rw [this]; exact Int.le_refl _
  unfold Lib.keeps at hk
  simp only [decide_eq_true_eq] at hk
  have e1 : ∀ a : Nat, xs.toArray[a]! = xs[a]! := fun a => by simp
  rw [e1, e1]
  rcases hk with hk | hk
  · omega
  · rw [e1, e1] at hk
    have h1 := hle i (j - 1) (by omega) (by omega)
    have h2 := hle (j - 1) j (by omega) hj'
    omega
theorem cpL_all {xs : List Int} {x : Int} (h : x ∈ xs) : x ∈ cpL xs := by
  unfold cpL Lib.compactUpTo
  have key : ∀ j, j < xs.length → xs[j]! = x → x ∈ ((List.range xs.toArray.size).filter (Lib.keeps xs.toArray)).map (xs.toArray[·]!) := by
    intro j
    induction j with
    | zero =>
      intro hj e
      refine List.mem_map.2 ⟨0, List.mem_filter.2 ⟨by simpa using hj, by simp [Lib.keeps]⟩, by simpa using e⟩
    | succ j ih =>
      intro hj e
      by_cases hp : xs[j]! = x
      · exact ih (by omega) hp
      · refine List.mem_map.2 ⟨j + 1, List.mem_filter.2 ⟨by simpa using hj, ?_⟩, by simpa using e⟩
        unfold Lib.keeps
        simp only [decide_eq_true_eq]
        right
        have e1 : ∀ a : Nat, xs.toArray[a]! = xs[a]! := fun a => by simp
        rw [e1, e1, e, Nat.add_sub_cancel]
        exact fun h => hp h.symm
  obtain ⟨j, hj, e⟩ := List.mem_iff_getElem.1 h
  exact key j hj (by rw [getElem!_pos xs j hj]; exact e)
theorem makeV_eq (vs : List Int) : makeTo id vs vs.length = cpL (sortL vs) := by
  refine rise_eq (makeTo_pair id vs _) (cpL_pair (sortL_sorted vs)) fun x => ?_
  rw [makeTo_mem]
  constructor
  · intro h; exact cpL_all ((List.mergeSort_perm _ _).mem_iff.2 h)
  · intro h; exact (List.mergeSort_perm _ _).mem_iff.1 (cpL_mem h)
theorem makeE_eq {es es' : List Edg} (hd : (es.map Prod.fst).Nodup) (hp : es'.Perm es) (hr : Rise es') : es' = makeTo Prod.fst es es.length :=
  rise_unique (rise_pair hr) (makeTo_pair Prod.fst es _) (hp.trans (makeTo_perm hd).symm)
end Go.Proofs.Ytklmckbpbloonaa
