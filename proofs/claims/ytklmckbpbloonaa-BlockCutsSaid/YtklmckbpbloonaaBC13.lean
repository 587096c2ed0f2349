/- Parts of the proof: SortP, SortQ, SortR, SortS. -/
import Derived.Test.YtklmckbpbloonaaBC1
namespace Go.Proofs.Ytklmckbpbloonaa

section
variable {α : Type}
/-- Two places change their things. -/
def swp (es : List α) (i j : Nat) : List α :=
  match es[i]?, es[j]? with
  | some x, some y => (es.set i y).set j x
  | _, _ => es
theorem swp_eq {es : List α} {i j : Nat} {x y : α} (hi : es[i]? = some x) (hj : es[j]? = some y) : swp es i j = (es.set i y).set j x := by unfold swp; rw [hi, hj]
theorem swp_len (es : List α) (i j : Nat) : (swp es i j).length = es.length := by unfold swp; split <;> simp
theorem swp_at {es : List α} {i j : Nat} (hi : i < es.length) (hj : j < es.length) (k : Nat) : (swp es i j)[k]? = if k = j then es[i]? else if k = i then es[j]? else es[k]? := by
  rw [swp_eq (List.getElem?_eq_getElem hi) (List.getElem?_eq_getElem hj), List.getElem?_set, List.getElem?_set]
  by_cases h1 : j = k
  · subst h1; simp [hj, hi]
  · rw [if_neg h1, if_neg (Ne.symm h1)]
    by_cases h2 : i = k
    · subst h2; simp [hi, hj]
    · rw [if_neg h2, if_neg (Ne.symm h2)]
theorem swp_perm {es : List α} {i j : Nat} (hi : i < es.length) (hj : j < es.length) : (swp es i j).Perm es := by
  rw [swp_eq (List.getElem?_eq_getElem hi) (List.getElem?_eq_getElem hj)]
  exact List.set_set_perm hi hj
/-- n places from a on change their things with those from b on. -/
def swr (es : List α) (a b : Nat) : Nat → List α
  | 0 => es
  | k + 1 => swp (swr es a b k) (a + k) (b + k)
theorem swr_len (es : List α) (a b : Nat) : ∀ k, (swr es a b k).length = es.length
  | 0 => rfl
  | k + 1 => by unfold swr; rw [swp_len, swr_len es a b k]
theorem swr_at {es : List α} {a b : Nat} : ∀ (n : Nat), a + n ≤ b → b + n ≤ es.length → ∀ i, (swr es a b n)[i]? = if a ≤ i ∧ i < a + n then es[b + (i - a)]? else if b ≤ i ∧ i < b + n then es[a + (i - b)]? else es[i]?
  | 0, _, _, i => by rw [if_neg (by omega), if_neg (by omega)]; rfl
  | n + 1, h1, h2, i => by
    have ih := fun i => swr_at (es := es) (a := a) (b := b) n (by omega) (by omega) i
    have hl := swr_len es a b n
    unfold swr
    rw [swp_at (by omega) (by omega), ih, ih, ih]
    by_cases e1 : i = b + n
    · subst e1
      rw [if_pos rfl, if_neg (by omega), if_neg (by omega), if_neg (by omega), if_pos (by omega)]
      congr 1; omega
    · rw [if_neg e1]
      by_cases e2 : i = a + n
      · subst e2
        rw [if_pos rfl, if_neg (by omega), if_neg (by omega), if_pos (by omega)]
        congr 1; omega
      · rw [if_neg e2]
        by_cases e3 : a ≤ i ∧ i < a + n
        · rw [if_pos e3, if_pos (by omega)]
        · rw [if_neg e3, if_neg (show ¬ (a ≤ i ∧ i < a + (n + 1)) by omega)]
          by_cases e4 : b ≤ i ∧ i < b + n
          · rw [if_pos e4, if_pos (by omega)]
          · rw [if_neg e4, if_neg (by omega)]
/-- Two pieces of one length change places. -/
theorem swr_pieces {X S Y T Z : List α} (h : S.length = T.length) : swr (X ++ S ++ Y ++ T ++ Z) X.length (X.length + S.length + Y.length) S.length = X ++ T ++ Y ++ S ++ Z := by
  apply List.ext_getElem?
  intro i
  rw [swr_at _ (by omega) (by simp; omega)]
  simp only [List.append_assoc]
  by_cases h1 : X.length ≤ i ∧ i < X.length + S.length
  · rw [if_pos h1]
    have e : X.length + S.length + Y.length + (i - X.length) = X.length + (S.length + (Y.length + (i - X.length))) := by omega
    rw [e, List.getElem?_append_right (by omega), List.getElem?_append_right (l₁ := X) (by omega)]
    rw [List.getElem?_append_right (by omega), List.getElem?_append_right (by omega), List.getElem?_append_left (by omega), List.getElem?_append_left (by omega)]
    congr 1; omega
  · rw [if_neg h1]
    by_cases h2 : X.length + S.length + Y.length ≤ i ∧ i < X.length + S.length + Y.length + S.length
    · rw [if_pos h2]
      rw [List.getElem?_append_right (by omega), List.getElem?_append_left (by omega)]
      rw [List.getElem?_append_right (l₁ := X) (by omega), List.getElem?_append_right (l₁ := T) (by omega), List.getElem?_append_right (l₁ := Y) (by omega), List.getElem?_append_left (l₁ := S) (by omega)]
      congr 1; omega
    · rw [if_neg h2]
      by_cases h3 : i < X.length
      · rw [List.getElem?_append_left (by omega), List.getElem?_append_left (by omega)]
      · rw [List.getElem?_append_right (by omega), List.getElem?_append_right (l₁ := X) (by omega), List.getElem?_append_right (by omega), List.getElem?_append_right (l₁ := T) (by omega), h]
        by_cases h4 : i < X.length + S.length + Y.length
        · rw [List.getElem?_append_left (by omega), List.getElem?_append_left (by omega)]
        · rw [List.getElem?_append_right (by omega), List.getElem?_append_right (l₁ := Y) (by omega), List.getElem?_append_right (by omega), List.getElem?_append_right (l₁ := S) (by omega)]
          congr 1; omega
end
end Go.Proofs.Ytklmckbpbloonaa

namespace Go.Proofs.Ytklmckbpbloonaa

def K (es : List Edg) (p : Nat) : Int := ((es[p]?).map Prod.fst).getD 0
theorem K_at {es : List Edg} {p : Nat} {e : Edg} (h : es[p]? = some e) : K es p = e.1 := by unfold K; rw [h]; rfl
theorem K_swp {es : List Edg} {i j : Nat} (hi : i < es.length) (hj : j < es.length) (k : Nat) : K (swp es i j) k = if k = j then K es i else if k = i then K es j else K es k := by
  unfold K
  rw [swp_at hi hj]
  split
  · rfl
  · split <;> rfl
/-- The places from a to b are by rising numbers. -/
def Srt (es : List Edg) (a b : Nat) : Prop := ∀ p q, a ≤ p → p < q → q < b → K es p ≤ K es q
/-- .. but for place j. -/
def SrtX (es : List Edg) (a b j : Nat) : Prop := ∀ p q, a ≤ p → p < q → q < b → q ≠ j → K es p ≤ K es q
/-- The same things; all places but those from a to b as they were. -/
structure Like (a b : Nat) (es es' : List Edg) : Prop where
  perm : es'.Perm es
  out : ∀ p, p < a ∨ b ≤ p → es'[p]? = es[p]?
section
variable {es es' es'' : List Edg} {a b c d i j m : Nat}
theorem Like.len (h : Like a b es es') : es'.length = es.length := h.perm.length_eq
theorem Like.refl (a b : Nat) (es : List Edg) : Like a b es es := ⟨List.Perm.refl _, fun _ _ => rfl⟩
theorem Like.trans (h : Like a b es es') (h' : Like a b es' es'') : Like a b es es'' := ⟨h'.perm.trans h.perm, fun p hp => (h'.out p hp).trans (h.out p hp)⟩
theorem Like.more (h : Like a b es es') (h1 : c ≤ a) (h2 : b ≤ d) : Like c d es es' := ⟨h.perm, fun p hp => h.out p (by omega)⟩
theorem Like.swp (h : Like a b es es') (h1 : a ≤ i) (h2 : a ≤ j) (h3 : i < b) (h4 : j < b) (hb : b ≤ es.length) : Like a b es (swp es' i j) := by
  have hl := h.len
  refine ⟨(swp_perm (by omega) (by omega)).trans h.perm, fun p hp => ?_⟩
  rw [swp_at (by omega) (by omega), if_neg (by omega), if_neg (by omega)]
  exact h.out p hp
theorem Like.key (h : Like a b es es') {p : Nat} (hp : p < a ∨ b ≤ p) : K es' p = K es p := by unfold K; rw [h.out p hp]
theorem Srt.one (es : List Edg) (a : Nat) : Srt es a (a + 1) := fun p q h1 h2 h3 => by omega
theorem Srt.x (h : Srt es a i) : SrtX es a (i + 1) i := fun p q h1 h2 h3 h4 => h p q h1 h2 (by omega)
theorem SrtX.done (h : SrtX es a b j) (hs : j ≤ a ∨ K es (j - 1) ≤ K es j) : Srt es a b := fun p q h1 h2 h3 => by
  by_cases e : q = j
  · subst e
    rcases hs with hs | hs
    · omega
    · by_cases e2 : p = q - 1
      · subst e2; exact hs
      · have := h p (q - 1) h1 (by omega) (by omega) (by omega)
        omega
  · exact h p q h1 h2 h3 e
theorem SrtX.swp (h : SrtX es a b j) (hj : a < j) (hb : j < b) (hl : b ≤ es.length) (hk : K es j < K es (j - 1)) : SrtX (swp es j (j - 1)) a b (j - 1) := fun p q h1 h2 h3 h4 => by
  rw [K_swp (by omega) (by omega), K_swp (by omega) (by omega), if_neg h4]
  by_cases e1 : q = j
  · subst e1
    rw [if_pos rfl]
    by_cases e2 : p = q - 1
    · rw [if_pos e2]; omega
    · rw [if_neg e2, if_neg (by omega)]
      exact h p (q - 1) h1 (by omega) (by omega) (by omega)
  · rw [if_neg e1]
    by_cases e2 : p = j - 1
    · rw [if_pos e2]
      exact h j q (by omega) (by omega) h3 e1
    · rw [if_neg e2]
      by_cases e3 : p = j
      · rw [if_pos e3]
        exact h (j - 1) q (by omega) (by omega) h3 e1
      · rw [if_neg e3]
        exact h p q h1 h2 h3 e1
theorem Srt.like (h : Srt es a b) (hl : Like c d es es') (hd : b ≤ c ∨ d ≤ a) : Srt es' a b := fun p q h1 h2 h3 => by
  rw [hl.key (by omega), hl.key (by omega)]
  exact h p q h1 h2 h3
end
/-- What a number says against another one. -/
def cmpN (x y : Int) : Int := if x < y then -1 else if y < x then 1 else 0
theorem cmpN_lt (x y : Int) : decide (cmpN x y < 0) = decide (x < y) := by
  unfold cmpN
  by_cases h : x < y
  · rw [if_pos h]; simp [h]
  · rw [if_neg h]
    by_cases h2 : y < x
    · rw [if_pos h2]; simp [h]
    · rw [if_neg h2]; simp [h]
end Go.Proofs.Ytklmckbpbloonaa

namespace Go.Proofs.Ytklmckbpbloonaa

section
variable {es es' : List Edg} {a b j m : Nat}
/-- By rising numbers from a to b, but for what stands behind place j. -/
def SrtY (es : List Edg) (a b j : Nat) : Prop := ∀ p q, a ≤ p → p < q → q < b → p ≠ j → K es p ≤ K es q
theorem SrtY.done (h : SrtY es a b j) (hs : b ≤ j + 1 ∨ K es j ≤ K es (j + 1)) : Srt es a b := fun p q h1 h2 h3 => by
  by_cases e : p = j
  · subst e
    rcases hs with hs | hs
    · omega
    · by_cases e2 : q = p + 1
      · subst e2; exact hs
      · have := h (p + 1) q (by omega) (by omega) h3 (by omega)
        omega
  · exact h p q h1 h2 h3 e
theorem SrtY.swp (h : SrtY es a b j) (ha : a ≤ j) (hj : j + 1 < b) (hl : b ≤ es.length) (hk : K es (j + 1) < K es j) : SrtY (swp es j (j + 1)) a b (j + 1) := fun p q h1 h2 h3 h4 => by
  rw [K_swp (by omega) (by omega), K_swp (by omega) (by omega), if_neg h4]
  by_cases e1 : p = j
  · subst e1
    rw [if_pos rfl]
    by_cases e2 : q = p + 1
    · rw [if_pos e2]; omega
    · rw [if_neg e2, if_neg (by omega)]
      exact h (p + 1) q (by omega) (by omega) h3 (by omega)
  · rw [if_neg e1]
    by_cases e2 : q = j + 1
    · rw [if_pos e2]
      exact h p j h1 (by omega) (by omega) e1
    · rw [if_neg e2]
      by_cases e3 : q = j
      · rw [if_pos e3]
        exact h p (j + 1) h1 (by omega) (by omega) e1
      · rw [if_neg e3]
        exact h p q h1 h2 h3 e1
theorem Srt.y (h : Srt es (a + 1) b) : SrtY es a b a := fun p q h1 h2 h3 h4 => h p q (by omega) h2 h3
theorem Like.piece (h : Like a b es es') (hab : a ≤ b) (hb : b ≤ es.length) : ∀ p, a ≤ p → p < b → ∃ q, a ≤ q ∧ q < b ∧ K es' p = K es q := by
  intro p h1 h2
  have hl := h.len
  have e1 : ∀ l : List Edg, l = l.take a ++ ((l.drop a).take (b - a) ++ l.drop b) := fun l => by
    have : l.drop b = (l.drop a).drop (b - a) := by rw [List.drop_drop]; congr 1; omega
    rw [this, List.take_append_drop, List.take_append_drop]
  have t1 : es'.take a = es.take a := by
    apply List.ext_getElem?
    intro i
    by_cases hi : i < a
    · rw [List.getElem?_take_of_lt hi, List.getElem?_take_of_lt hi]; exact h.out i (.inl hi)
    · rw [List.getElem?_eq_none (by simp; omega), List.getElem?_eq_none (by simp; omega)]
  have t2 : es'.drop b = es.drop b := by
    apply List.ext_getElem?
    intro i
    rw [List.getElem?_drop, List.getElem?_drop]; exact h.out _ (.inr (by omega))
  have hp := h.perm
  rw [e1 es', e1 es, t1, t2] at hp
  have hp2 := (List.perm_append_right_iff _).1 ((List.perm_append_left_iff _).1 hp)
  have hpl : p < es'.length := by omega
  have hm : es'[p] ∈ (es'.drop a).take (b - a) := by
    have : ((es'.drop a).take (b - a))[p - a]? = es'[p]? := by rw [List.getElem?_take_of_lt (by omega), List.getElem?_drop]; congr 1; omega
    rw [List.getElem?_eq_getElem hpl] at this
    exact List.mem_of_getElem? this
  obtain ⟨i, hi⟩ := List.mem_iff_getElem?.1 (hp2.mem_iff.1 hm)
  have hib : i < b - a := by have := (List.getElem?_eq_some_iff.1 hi).1; simp at this; omega
  rw [List.getElem?_take_of_lt hib, List.getElem?_drop] at hi
  refine ⟨a + i, by omega, by omega, ?_⟩
  unfold K
  rw [hi, List.getElem?_eq_getElem hpl]
/-- Two sorted pieces, each of the first one no greater than any of the second one. -/
theorem Srt.join (h1 : Srt es a m) (h2 : Srt es m b) (hc : ∀ x y, a ≤ x → x < m → m ≤ y → y < b → K es x ≤ K es y) : Srt es a b := fun p q p1 p2 p3 => by
  by_cases e1 : q < m
  · exact h1 p q p1 p2 e1
  · by_cases e2 : m ≤ p
    · exact h2 p q e2 p2 p3
    · exact hc p q p1 (by omega) (by omega) p3
/-- The two pieces U and V have changed places. -/
def rot (es : List Edg) (s m e : Nat) : List Edg := es.take s ++ (es.drop m).take (e - m) ++ (es.drop s).take (m - s) ++ es.drop e
theorem pieces (es : List Edg) {s m e : Nat} (h1 : s ≤ m) (h2 : m ≤ e) : es = es.take s ++ (es.drop s).take (m - s) ++ (es.drop m).take (e - m) ++ es.drop e := by
  have e1 : es.drop m = (es.drop s).drop (m - s) := by rw [List.drop_drop]; congr 1; omega
  have e2 : es.drop e = (es.drop m).drop (e - m) := by rw [List.drop_drop]; congr 1; omega
  rw [e2, List.append_assoc, List.take_append_drop, e1, List.append_assoc, List.take_append_drop, List.take_append_drop]
theorem rot_at {es : List Edg} {s m e : Nat} (h1 : s ≤ m) (h2 : m ≤ e) (h3 : e ≤ es.length) (p : Nat) :
    (rot es s m e)[p]? = if p < s then es[p]? else if p < s + (e - m) then es[p - s + m]? else if p < e then es[p - (s + (e - m)) + s]? else es[p]? := by
  unfold rot
  have l1 : (es.take s).length = s := by simp; omega
  have l2 : ((es.drop m).take (e - m)).length = e - m := by simp; omega
  have l3 : ((es.drop s).take (m - s)).length = m - s := by simp; omega
  by_cases c1 : p < s
  · rw [if_pos c1, List.append_assoc, List.append_assoc, List.getElem?_append_left (by omega), List.getElem?_take_of_lt c1]
  · rw [if_neg c1, List.append_assoc, List.append_assoc, List.getElem?_append_right (by omega), l1]
    by_cases c2 : p < s + (e - m)
    · rw [if_pos c2, List.getElem?_append_left (by omega), List.getElem?_take_of_lt (by omega), List.getElem?_drop]
      congr 1; omega
    · rw [if_neg c2, List.getElem?_append_right (by omega), l2]
      by_cases c3 : p < e
      · rw [if_pos c3, List.getElem?_append_left (by omega), List.getElem?_take_of_lt (by omega), List.getElem?_drop]
        congr 1; omega
      · rw [if_neg c3, List.getElem?_append_right (by omega), l3, List.getElem?_drop]
        congr 1; omega
theorem rot_like {es : List Edg} {s m e : Nat} (h1 : s ≤ m) (h2 : m ≤ e) (h3 : e ≤ es.length) : Like s e es (rot es s m e) := by
  refine ⟨?_, fun p hp => ?_⟩
  · unfold rot
    refine List.Perm.trans ?_ (List.Perm.of_eq (pieces es h1 h2).symm)
    refine List.Perm.append_right _ ?_
    rw [List.append_assoc, List.append_assoc]
    exact List.Perm.append_left _ List.perm_append_comm
  · rw [rot_at h1 h2 h3]
    by_cases c1 : p < s
    · rw [if_pos c1]
    · rw [if_neg c1, if_neg (by omega), if_neg (by omega)]
theorem rot_none {es : List Edg} {s m e : Nat} (h1 : s ≤ m) (h2 : m ≤ e) (h3 : e ≤ es.length) (h : ¬ (s < m ∧ m < e)) : rot es s m e = es := by
  apply List.ext_getElem?
  intro p
  rw [rot_at h1 h2 h3]
  split
  · rfl
  · split
    · congr 1; omega
    · split
      · congr 1; omega
      · rfl
theorem rot_K {es : List Edg} {s m e : Nat} (h1 : s ≤ m) (h2 : m ≤ e) (h3 : e ≤ es.length) (p : Nat) :
    K (rot es s m e) p = if p < s then K es p else if p < s + (e - m) then K es (p - s + m) else if p < e then K es (p - (s + (e - m)) + s) else K es p := by
  unfold K
  rw [rot_at h1 h2 h3]
  split
  · rfl
  · split
    · rfl
    · split <;> rfl
section
variable {s e p : Nat} (h1 : s ≤ m) (h2 : m ≤ e) (h3 : e ≤ es.length)
include h1 h2 h3
theorem rot_1 (h : p < s) : K (rot es s m e) p = K es p := by rw [rot_K h1 h2 h3, if_pos h]
theorem rot_2 (h : s ≤ p) (h' : p < s + (e - m)) : K (rot es s m e) p = K es (p - s + m) := by rw [rot_K h1 h2 h3, if_neg (by omega), if_pos h']
theorem rot_3 (h : s + (e - m) ≤ p) (h' : p < e) : K (rot es s m e) p = K es (p - (s + (e - m)) + s) := by rw [rot_K h1 h2 h3, if_neg (by omega), if_neg (by omega), if_pos h']
theorem rot_4 (h : e ≤ p) : K (rot es s m e) p = K es p := by rw [rot_K h1 h2 h3, if_neg (by omega), if_neg (by omega), if_neg (by omega)]
end
/-- Where the search has come to. -/
structure Cut (es : List Edg) (a m b s e mid : Nat) : Prop where
  s1 : a ≤ s
  s2 : s ≤ m
  s3 : s ≤ mid
  e1 : m ≤ e
  e2 : e ≤ b
  e3 : mid ≤ e
  mid : mid = s + (e - m)
  A : ∀ x y, a ≤ x → x < s → e ≤ y → y < b → K es x ≤ K es y
  B : ∀ x y, m ≤ x → x < e → s ≤ y → y < m → K es x ≤ K es y
theorem cut_of {es : List Edg} {a m b s mid start0 r0 : Nat} (h1 : a < m) (h2 : m < b) (hL : Srt es a m) (hR : Srt es m b) (hmid : mid = (a + b) / 2)
    (hs : (mid < m ∧ start0 = mid + m - b ∧ r0 = mid) ∨ (m ≤ mid ∧ start0 = a ∧ r0 = m)) (hs1 : start0 ≤ s) (hs2 : s ≤ r0)
    (P1 : ∀ c, start0 ≤ c → c < s → K es c ≤ K es (mid + m - 1 - c)) (P2 : ∀ c, s ≤ c → c < r0 → K es (mid + m - 1 - c) < K es c) : Cut es a m b s (mid + m - s) mid := by
  have hb : s ≤ m ∧ a ≤ s ∧ s ≤ mid ∧ mid + m - s ≤ b := by omega
  obtain ⟨b1, b2, b3, b4⟩ := hb
  refine ⟨b2, b1, b3, by omega, b4, by omega, by omega, fun x y q1 q2 q3 q4 => ?_, fun x y q1 q2 q3 q4 => ?_⟩
  · by_cases e : start0 < s
    · have k1 := P1 (s - 1) (by omega) (by omega)
      have e2 : mid + m - 1 - (s - 1) = mid + m - s := by omega
      rw [e2] at k1
      have k2 : K es x ≤ K es (s - 1) := by
        by_cases e3 : x = s - 1
        · subst e3; exact Int.le_refl _
        · exact hL x (s - 1) q1 (by omega) (by omega)
      have k3 : K es (mid + m - s) ≤ K es y := by
        by_cases e3 : y = mid + m - s
        · subst e3; exact Int.le_refl _
        · exact hR _ y (by omega) (by omega) q4
      omega
    · omega
  · by_cases e : s < r0
    · have k1 := P2 s (Nat.le_refl _) e
      have e2 : mid + m - 1 - s = mid + m - s - 1 := by omega
      rw [e2] at k1
      have k2 : K es x ≤ K es (mid + m - s - 1) := by
        by_cases e3 : x = mid + m - s - 1
        · subst e3; exact Int.le_refl _
        · exact hR x _ q1 (by omega) (by omega)
      have k3 : K es s ≤ K es y := by
        by_cases e3 : y = s
        · subst e3; exact Int.le_refl _
        · exact hL s y b2 (by omega) q4
      omega
    · omega
section
variable {s e mid : Nat} (h : Cut es a m b s e mid) (hL : Srt es a m) (hR : Srt es m b) (hb : b ≤ es.length)
include h hL hR hb
theorem cut_first : Srt (rot es s m e) a s ∧ Srt (rot es s m e) s mid := by
  obtain ⟨q1, q2, q3, q4, q5, q6, q7, A, B⟩ := h
  have hel : e ≤ es.length := by omega
  refine ⟨fun p q c1 c2 c3 => ?_, fun p q c1 c2 c3 => ?_⟩
  · rw [rot_1 q2 q4 hel (p := p) (by omega), rot_1 q2 q4 hel (p := q) (by omega)]
    exact hL p q c1 c2 (by omega)
  · rw [rot_2 q2 q4 hel (p := p) (by omega) (by omega), rot_2 q2 q4 hel (p := q) (by omega) (by omega)]
    exact hR _ _ (by omega) (by omega) (by omega)
theorem cut_second : Srt (rot es s m e) mid e ∧ Srt (rot es s m e) e b := by
  obtain ⟨q1, q2, q3, q4, q5, q6, q7, A, B⟩ := h
  have hel : e ≤ es.length := by omega
  refine ⟨fun p q c1 c2 c3 => ?_, fun p q c1 c2 c3 => ?_⟩
  · rw [rot_3 q2 q4 hel (p := p) (by omega) (by omega), rot_3 q2 q4 hel (p := q) (by omega) (by omega)]
    exact hL _ _ (by omega) (by omega) (by omega)
  · rw [rot_4 q2 q4 hel (p := p) (by omega), rot_4 q2 q4 hel (p := q) (by omega)]
    exact hR _ _ (by omega) (by omega) (by omega)
theorem cut_cross : ∀ x y, a ≤ x → x < mid → mid ≤ y → y < b → K (rot es s m e) x ≤ K (rot es s m e) y := by
  obtain ⟨q1, q2, q3, q4, q5, q6, q7, A, B⟩ := h
  have hel : e ≤ es.length := by omega
  intro x y c1 c2 c3 c4
  by_cases d1 : x < s
  · rw [rot_1 q2 q4 hel (p := x) d1]
    by_cases d2 : y < e
    · rw [rot_3 q2 q4 hel (p := y) (by omega) d2]; exact hL _ _ c1 (by omega) (by omega)
    · rw [rot_4 q2 q4 hel (p := y) (by omega)]; exact A _ _ c1 d1 (by omega) c4
  · rw [rot_2 q2 q4 hel (p := x) (by omega) (by omega)]
    by_cases d2 : y < e
    · rw [rot_3 q2 q4 hel (p := y) (by omega) d2]; exact B _ _ (by omega) (by omega) (by omega) (by omega)
    · rw [rot_4 q2 q4 hel (p := y) (by omega)]; exact hR _ _ (by omega) (by omega) c4
/-- Both halves are merged. -/
theorem cut_done {es3 es4 : List Edg} (h3 : Like a mid (rot es s m e) es3) (s3 : Srt es3 a mid) (h4 : Like mid b es3 es4) (s4 : Srt es4 mid b) (ham : a ≤ mid) (hmb : mid ≤ b) : Srt es4 a b := by
  have hl := (rot_like (es := es) (s := s) (m := m) (e := e) h.s2 h.e1 (by have := h.e2; omega)).len
  have hc := cut_cross h hL hR hb
  have l3 := h3.len
  refine Srt.join (m := mid) (s3.like h4 (.inl (Nat.le_refl _))) s4 fun x y c1 c2 c3 c4 => ?_
  obtain ⟨x', u1, u2, u3⟩ := h3.piece ham (by omega) x c1 c2
  obtain ⟨y', v1, v2, v3⟩ := h4.piece hmb (by omega) y c3 c4
  rw [h4.key (.inl c2), u3, v3, h3.key (.inr v1)]
  exact hc x' y' u1 u2 v1 v2
end
end
end Go.Proofs.Ytklmckbpbloonaa

namespace Go.Proofs.Ytklmckbpbloonaa

/-- All pieces of bs are sorted. -/
def Blks (cur : List Edg) (bs n : Nat) : Prop := ∀ i, Srt cur (i * bs) (min (i * bs + bs) n)
/-- The first k pairs of pieces are merged, the others are not. -/
structure Half (cur : List Edg) (bs n k : Nat) : Prop where
  lo : ∀ i, i < k → Srt cur (i * (2 * bs)) (i * (2 * bs) + 2 * bs)
  hi : ∀ i, 2 * k ≤ i → Srt cur (i * bs) (min (i * bs + bs) n)
section
variable {cur cur' : List Edg} {bs n k : Nat}
theorem twos (k bs : Nat) : k * (2 * bs) = (2 * k) * bs := by rw [Nat.mul_left_comm, Nat.mul_assoc]
theorem Half.start (h : Blks cur bs n) : Half cur bs n 0 := ⟨fun i hi => by omega, fun i _ => h i⟩
theorem Half.left (h : Half cur bs n k) (hb : k * (2 * bs) + 2 * bs ≤ n ∨ k * (2 * bs) + bs ≤ n) : Srt cur (k * (2 * bs)) (k * (2 * bs) + bs) := by
  have := h.hi (2 * k) (Nat.le_refl _)
  rw [← twos] at this
  rwa [Nat.min_eq_left (by omega)] at this
theorem Half.right (h : Half cur bs n k) : Srt cur (k * (2 * bs) + bs) (min (k * (2 * bs) + 2 * bs) n) := by
  have := h.hi (2 * k + 1) (by omega)
  rw [Nat.succ_mul, ← twos] at this
  rwa [show k * (2 * bs) + bs + bs = k * (2 * bs) + 2 * bs by omega] at this
theorem Half.next (h : Half cur bs n k) (hl : Like (k * (2 * bs)) (k * (2 * bs) + 2 * bs) cur cur') (hs : Srt cur' (k * (2 * bs)) (k * (2 * bs) + 2 * bs)) : Half cur' bs n (k + 1) := by
  refine ⟨fun i hi => ?_, fun i hi => ?_⟩
  · by_cases e : i = k
    · subst e; exact hs
    · refine (h.lo i (by omega)).like hl (.inl ?_)
      have := Nat.mul_le_mul_right (2 * bs) (show i + 1 ≤ k by omega)
      rw [Nat.succ_mul] at this; exact this
  · refine (h.hi i (by omega)).like hl (.inr ?_)
    have := Nat.mul_le_mul_right bs (show 2 * k + 1 + 1 ≤ i by omega)
    rw [Nat.succ_mul, Nat.succ_mul, ← twos] at this
    omega
theorem Half.done (h : Half cur bs n k) (ha : k * (2 * bs) ≤ n) (hb : n < k * (2 * bs) + 2 * bs) (hl : Like (k * (2 * bs)) n cur cur') (hs : Srt cur' (k * (2 * bs)) n) : Blks cur' (2 * bs) n := fun i => by
  by_cases e : i < k
  · have e1 := Nat.mul_le_mul_right (2 * bs) (show i + 1 ≤ k by omega)
    rw [Nat.succ_mul] at e1
    rw [Nat.min_eq_left (by omega)]
    exact (h.lo i e).like hl (.inl e1)
  · by_cases e2 : i = k
    · subst e2; rw [Nat.min_eq_right (by omega)]; exact hs
    · have e1 := Nat.mul_le_mul_right (2 * bs) (show k + 1 ≤ i by omega)
      rw [Nat.succ_mul] at e1
      intro p q c1 c2 c3
      have : min (i * (2 * bs) + 2 * bs) n ≤ n := Nat.min_le_right _ _
      omega
/-- Pieces of 20, sorted one by one. -/
structure Ones (cur : List Edg) (k : Nat) : Prop where
  lo : ∀ i, i < k → Srt cur (i * 20) (i * 20 + 20)
theorem Ones.next (h : Ones cur k) (hl : Like (k * 20) (k * 20 + 20) cur cur') (hs : Srt cur' (k * 20) (k * 20 + 20)) : Ones cur' (k + 1) := ⟨fun i hi => by
  by_cases e : i = k
  · subst e; exact hs
  · exact (h.lo i (by omega)).like hl (.inl (by omega))⟩
theorem Ones.done (h : Ones cur k) (ha : k * 20 ≤ n) (hb : n < k * 20 + 20) (hl : Like (k * 20) n cur cur') (hs : Srt cur' (k * 20) n) : Blks cur' 20 n := fun i => by
  by_cases e : i < k
  · rw [Nat.min_eq_left (by omega)]; exact (h.lo i e).like hl (.inl (by omega))
  · by_cases e2 : i = k
    · subst e2; rw [Nat.min_eq_right (by omega)]; exact hs
    · intro p q c1 c2 c3
      have : min (i * 20 + 20) n ≤ n := Nat.min_le_right _ _
      omega
theorem Blks.all (h : Blks cur bs n) (hb : n ≤ bs) : Srt cur 0 n := by
  have := h 0
  rw [Nat.zero_mul, Nat.zero_add, Nat.min_eq_right hb] at this; exact this
end
end Go.Proofs.Ytklmckbpbloonaa
