/- Parts of the proof: SortR, SortS, UnP, ChgT, Held, RowT, SortE1, SortE2, SortE3, SortE4. -/
import Derived.Test.YtklmckbpbloonaaUO5
import Derived.Test.YtklmckbpbloonaaProg
import Derived.Test.YtklmckbpbloonaaUO1
import Derived.Deep.MidRow
import Derived.Deep.WholeRow
import Derived.StillTailTactics
import Derived.Deep.DeepCutAuto
import Derived.Deep.RegionHeld3
import Derived.Test.YtklmckbpbloonaaUO2
import Derived.IntWalk
import Derived.Test.YtklmckbpbloonaaUO3
namespace Go.Proofs.Ytklmckbpbloonaa

section
variable {es es' : List Edg} {a b j m : Nat}
/-- By rising numbers from a to b, but for what stands behind place j. -/
def SrtY (es : List Edg) (a b j : Nat) : Prop := ∀ p q, a ≤ p → p < q → q < b → p ≠ j → K es p ≤ K es q
theorem SrtY.done (h : SrtY es a b j) (hs : b ≤ j + 1 ∨ K es j ≤ K es (j + 1)) : Srt es a b := fun p q h1 h2 h3 => by
  by_cases e : p = j
  · subst e
    rcases hs with hs | hs
    · omega
    · by_cases e2 : q = p + 1
      · subst e2; exact hs
      · have := h (p + 1) q (by omega) (by omega) h3 (by omega)
        omega
  · exact h p q h1 h2 h3 e
theorem SrtY.swp (h : SrtY es a b j) (ha : a ≤ j) (hj : j + 1 < b) (hl : b ≤ es.length) (hk : K es (j + 1) < K es j) : SrtY (swp es j (j + 1)) a b (j + 1) := fun p q h1 h2 h3 h4 => by
  rw [K_swp (by omega) (by omega), K_swp (by omega) (by omega), if_neg h4]
  by_cases e1 : p = j
  · subst e1
    rw [if_pos rfl]
    by_cases e2 : q = p + 1
    · rw [if_pos e2]; omega
    · rw [if_neg e2, if_neg (by omega)]
      exact h (p + 1) q (by omega) (by omega) h3 (by omega)
  · rw [if_neg e1]
    by_cases e2 : q = j + 1
    · rw [if_pos e2]
      exact h p j h1 (by omega) (by omega) e1
    · rw [if_neg e2]
      by_cases e3 : q = j
      · rw [if_pos e3]
        exact h p (j + 1) h1 (by omega) (by omega) e1
      · rw [if_neg e3]
        exact h p q h1 h2 h3 e1
theorem Srt.y (h : Srt es (a + 1) b) : SrtY es a b a := fun p q h1 h2 h3 h4 => h p q (by omega) h2 h3
theorem Like.piece (h : Like a b es es') (hab : a ≤ b) (hb : b ≤ es.length) : ∀ p, a ≤ p → p < b → ∃ q, a ≤ q ∧ q < b ∧ K es' p = K es q := by
  intro p h1 h2
  have hl := h.len
  have e1 : ∀ l : List Edg, l = l.take a ++ ((l.drop a).take (b - a) ++ l.drop b) := fun l => by
    have : l.drop b = (l.drop a).drop (b - a) := by rw [List.drop_drop]; congr 1; omega
    rw [this, List.take_append_drop, List.take_append_drop]
  have t1 : es'.take a = es.take a := by
    apply List.ext_getElem?
    intro i
    by_cases hi : i < a
    · rw [List.getElem?_take_of_lt hi, List.getElem?_take_of_lt hi]; exact h.out i (.inl hi)
    · rw [List.getElem?_eq_none (by simp; omega), List.getElem?_eq_none (by simp; omega)]
  have t2 : es'.drop b = es.drop b := by
    apply List.ext_getElem?
    intro i
    rw [List.getElem?_drop, List.getElem?_drop]; exact h.out _ (.inr (by omega))
  have hp := h.perm
  rw [e1 es', e1 es, t1, t2] at hp
  have hp2 := (List.perm_append_right_iff _).1 ((List.perm_append_left_iff _).1 hp)
  have hpl : p < es'.length := by omega
  have hm : es'[p] ∈ (es'.drop a).take (b - a) := by
    have : ((es'.drop a).take (b - a))[p - a]? = es'[p]? := by rw [List.getElem?_take_of_lt (by omega), List.getElem?_drop]; congr 1; omega
    rw [List.getElem?_eq_getElem hpl] at this
    exact List.mem_of_getElem? this
  obtain ⟨i, hi⟩ := List.mem_iff_getElem?.1 (hp2.mem_iff.1 hm)
  have hib : i < b - a := by have := (List.getElem?_eq_some_iff.1 hi).1; simp at this; omega
  rw [List.getElem?_take_of_lt hib, List.getElem?_drop] at hi
  refine ⟨a + i, by omega, by omega, ?_⟩
  unfold K
  rw [hi, List.getElem?_eq_getElem hpl]
/-- Two sorted pieces, each of the first one no greater than any of the second one. -/
theorem Srt.join (h1 : Srt es a m) (h2 : Srt es m b) (hc : ∀ x y, a ≤ x → x < m → m ≤ y → y < b → K es x ≤ K es y) : Srt es a b := fun p q p1 p2 p3 => by
  by_cases e1 : q < m
  · exact h1 p q p1 p2 e1
  · by_cases e2 : m ≤ p
    · exact h2 p q e2 p2 p3
    · exact hc p q p1 (by omega) (by omega) p3
/-- The two pieces U and V have changed places. -/
def rot (es : List Edg) (s m e : Nat) : List Edg := es.take s ++ (es.drop m).take (e - m) ++ (es.drop s).take (m - s) ++ es.drop e
theorem pieces (es : List Edg) {s m e : Nat} (h1 : s ≤ m) (h2 : m ≤ e) : es = es.take s ++ (es.drop s).take (m - s) ++ (es.drop m).take (e - m) ++ es.drop e := by
  have e1 : es.drop m = (es.drop s).drop (m - s) := by rw [List.drop_drop]; congr 1; omega
  have e2 : es.drop e = (es.drop m).drop (e - m) := by rw [List.drop_drop]; congr 1; omega
  rw [e2, List.append_assoc, List.take_append_drop, e1, List.append_assoc, List.take_append_drop, List.take_append_drop]
theorem rot_at {es : List Edg} {s m e : Nat} (h1 : s ≤ m) (h2 : m ≤ e) (h3 : e ≤ es.length) (p : Nat) :
    (rot es s m e)[p]? = if p < s then es[p]? else if p < s + (e - m) then es[p - s + m]? else if p < e then es[p - (s + (e - m)) + s]? else es[p]? := by
  unfold rot
  have l1 : (es.take s).length = s := by simp; omega
  have l2 : ((es.drop m).take (e - m)).length = e - m := by simp; omega
  have l3 : ((es.drop s).take (m - s)).length = m - s := by simp; omega
  by_cases c1 : p < s
  · rw [if_pos c1, List.append_assoc, List.append_assoc, List.getElem?_append_left (by omega), List.getElem?_take_of_lt c1]
  · rw [if_neg c1, List.append_assoc, List.append_assoc, List.getElem?_append_right (by omega), l1]
    by_cases c2 : p < s + (e - m)
    · rw [if_pos c2, List.getElem?_append_left (by omega), List.getElem?_take_of_lt (by omega), List.getElem?_drop]
      congr 1; omega
    · rw [if_neg c2, List.getElem?_append_right (by omega), l2]
      by_cases c3 : p < e
      · rw [if_pos c3, List.getElem?_append_left (by omega), List.getElem?_take_of_lt (by omega), List.getElem?_drop]
        congr 1; omega
      · rw [if_neg c3, List.getElem?_append_right (by omega), l3, List.getElem?_drop]
        congr 1; omega
theorem rot_like {es : List Edg} {s m e : Nat} (h1 : s ≤ m) (h2 : m ≤ e) (h3 : e ≤ es.length) : Like s e es (rot es s m e) := by
  refine ⟨?_, fun p hp => ?_⟩
  · unfold rot
    refine List.Perm.trans ?_ (List.Perm.of_eq (pieces es h1 h2).symm)
    refine List.Perm.append_right _ ?_
    rw [List.append_assoc, List.append_assoc]
    exact List.Perm.append_left _ List.perm_append_comm
  · rw [rot_at h1 h2 h3]
    by_cases c1 : p < s
    · rw [if_pos c1]
    · rw [if_neg c1, if_neg (by omega), if_neg (by omega)]
theorem rot_none {es : List Edg} {s m e : Nat} (h1 : s ≤ m) (h2 : m ≤ e) (h3 : e ≤ es.length) (h : ¬ (s < m ∧ m < e)) : rot es s m e = es := by
  apply List.ext_getElem?
  intro p
  rw [rot_at h1 h2 h3]
  split
  · rfl
  · split
    · congr 1; omega
    · split
      · congr 1; omega
      · rfl
theorem rot_K {es : List Edg} {s m e : Nat} (h1 : s ≤ m) (h2 : m ≤ e) (h3 : e ≤ es.length) (p : Nat) :
    K (rot es s m e) p = if p < s then K es p else if p < s + (e - m) then K es (p - s + m) else if p < e then K es (p - (s + (e - m)) + s) else K es p := by
  unfold K
  rw [rot_at h1 h2 h3]
  split
  · rfl
  · split
    · rfl
    · split <;> rfl
section
variable {s e p : Nat} (h1 : s ≤ m) (h2 : m ≤ e) (h3 : e ≤ es.length)
include h1 h2 h3
theorem rot_1 (h : p < s) : K (rot es s m e) p = K es p := by rw [rot_K h1 h2 h3, if_pos h]
theorem rot_2 (h : s ≤ p) (h' : p < s + (e - m)) : K (rot es s m e) p = K es (p - s + m) := by rw [rot_K h1 h2 h3, if_neg (by omega), if_pos h']
theorem rot_3 (h : s + (e - m) ≤ p) (h' : p < e) : K (rot es s m e) p = K es (p - (s + (e - m)) + s) := by rw [rot_K h1 h2 h3, if_neg (by omega), if_neg (by omega), if_pos h']
theorem rot_4 (h : e ≤ p) : K (rot es s m e) p = K es p := by rw [rot_K h1 h2 h3, if_neg (by omega), if_neg (by omega), if_neg (by omega)]
end
/-- Where the search has come to. -/
structure Cut (es : List Edg) (a m b s e mid : Nat) : Prop where
  s1 : a ≤ s
  s2 : s ≤ m
  s3 : s ≤ mid
  e1 : m ≤ e
  e2 : e ≤ b
  e3 : mid ≤ e
  mid : mid = s + (e - m)
  A : ∀ x y, a ≤ x → x < s → e ≤ y → y < b → K es x ≤ K es y
  B : ∀ x y, m ≤ x → x < e → s ≤ y → y < m → K es x ≤ K es y
theorem cut_of {es : List Edg} {a m b s mid start0 r0 : Nat} (h1 : a < m) (h2 : m < b) (hL : Srt es a m) (hR : Srt es m b) (hmid : mid = (a + b) / 2)
    (hs : (mid < m ∧ start0 = mid + m - b ∧ r0 = mid) ∨ (m ≤ mid ∧ start0 = a ∧ r0 = m)) (hs1 : start0 ≤ s) (hs2 : s ≤ r0)
    (P1 : ∀ c, start0 ≤ c → c < s → K es c ≤ K es (mid + m - 1 - c)) (P2 : ∀ c, s ≤ c → c < r0 → K es (mid + m - 1 - c) < K es c) : Cut es a m b s (mid + m - s) mid := by
  have hb : s ≤ m ∧ a ≤ s ∧ s ≤ mid ∧ mid + m - s ≤ b := by omega
  obtain ⟨b1, b2, b3, b4⟩ := hb
  refine ⟨b2, b1, b3, by omega, b4, by omega, by omega, fun x y q1 q2 q3 q4 => ?_, fun x y q1 q2 q3 q4 => ?_⟩
  · by_cases e : start0 < s
    · have k1 := P1 (s - 1) (by omega) (by omega)
      have e2 : mid + m - 1 - (s - 1) = mid + m - s := by omega
      rw [e2] at k1
      have k2 : K es x ≤ K es (s - 1) := by
        by_cases e3 : x = s - 1
        · subst e3; exact Int.le_refl _
        · exact hL x (s - 1) q1 (by omega) (by omega)
      have k3 : K es (mid + m - s) ≤ K es y := by
        by_cases e3 : y = mid + m - s
        · subst e3; exact Int.le_refl _
        · exact hR _ y (by omega) (by omega) q4
      omega
    · omega
  · by_cases e : s < r0
    · have k1 := P2 s (Nat.le_refl _) e
      have e2 : mid + m - 1 - s = mid + m - s - 1 := by omega
      rw [e2] at k1
      have k2 : K es x ≤ K es (mid + m - s - 1) := by
        by_cases e3 : x = mid + m - s - 1
        · subst e3; exact Int.le_refl _
        · exact hR x _ q1 (by omega) (by omega)
      have k3 : K es s ≤ K es y := by
        by_cases e3 : y = s
        · subst e3; exact Int.le_refl _
        · exact hL s y b2 (by omega) q4
      omega
    · omega
section
variable {s e mid : Nat} (h : Cut es a m b s e mid) (hL : Srt es a m) (hR : Srt es m b) (hb : b ≤ es.length)
include h hL hR hb
theorem cut_first : Srt (rot es s m e) a s ∧ Srt (rot es s m e) s mid := by
  obtain ⟨q1, q2, q3, q4, q5, q6, q7, A, B⟩ := h
  have hel : e ≤ es.length := by omega
  refine ⟨fun p q c1 c2 c3 => ?_, fun p q c1 c2 c3 => ?_⟩
  · rw [rot_1 q2 q4 hel (p := p) (by omega), rot_1 q2 q4 hel (p := q) (by omega)]
    exact hL p q c1 c2 (by omega)
  · rw [rot_2 q2 q4 hel (p := p) (by omega) (by omega), rot_2 q2 q4 hel (p := q) (by omega) (by omega)]
    exact hR _ _ (by omega) (by omega) (by omega)
theorem cut_second : Srt (rot es s m e) mid e ∧ Srt (rot es s m e) e b := by
  obtain ⟨q1, q2, q3, q4, q5, q6, q7, A, B⟩ := h
  have hel : e ≤ es.length := by omega
  refine ⟨fun p q c1 c2 c3 => ?_, fun p q c1 c2 c3 => ?_⟩
  · rw [rot_3 q2 q4 hel (p := p) (by omega) (by omega), rot_3 q2 q4 hel (p := q) (by omega) (by omega)]
    exact hL _ _ (by omega) (by omega) (by omega)
  · rw [rot_4 q2 q4 hel (p := p) (by omega), rot_4 q2 q4 hel (p := q) (by omega)]
    exact hR _ _ (by omega) (by omega) (by omega)
theorem cut_cross : ∀ x y, a ≤ x → x < mid → mid ≤ y → y < b → K (rot es s m e) x ≤ K (rot es s m e) y := by
  obtain ⟨q1, q2, q3, q4, q5, q6, q7, A, B⟩ := h
  have hel : e ≤ es.length := by omega
  intro x y c1 c2 c3 c4
  by_cases d1 : x < s
  · rw [rot_1 q2 q4 hel (p := x) d1]
    by_cases d2 : y < e
    · rw [rot_3 q2 q4 hel (p := y) (by omega) d2]; exact hL _ _ c1 (by omega) (by omega)
    · rw [rot_4 q2 q4 hel (p := y) (by omega)]; exact A _ _ c1 d1 (by omega) c4
  · rw [rot_2 q2 q4 hel (p := x) (by omega) (by omega)]
    by_cases d2 : y < e
    · rw [rot_3 q2 q4 hel (p := y) (by omega) d2]; exact B _ _ (by omega) (by omega) (by omega) (by omega)
    · rw [rot_4 q2 q4 hel (p := y) (by omega)]; exact hR _ _ (by omega) (by omega) c4
/-- Both halves are merged. -/
theorem cut_done {es3 es4 : List Edg} (h3 : Like a mid (rot es s m e) es3) (s3 : Srt es3 a mid) (h4 : Like mid b es3 es4) (s4 : Srt es4 mid b) (ham : a ≤ mid) (hmb : mid ≤ b) : Srt es4 a b := by
  have hl := (rot_like (es := es) (s := s) (m := m) (e := e) h.s2 h.e1 (by have := h.e2; omega)).len
  have hc := cut_cross h hL hR hb
  have l3 := h3.len
  refine Srt.join (m := mid) (s3.like h4 (.inl (Nat.le_refl _))) s4 fun x y c1 c2 c3 c4 => ?_
  obtain ⟨x', u1, u2, u3⟩ := h3.piece ham (by omega) x c1 c2
  obtain ⟨y', v1, v2, v3⟩ := h4.piece hmb (by omega) y c3 c4
  rw [h4.key (.inl c2), u3, v3, h3.key (.inr v1)]
  exact hc x' y' u1 u2 v1 v2
end
end
end Go.Proofs.Ytklmckbpbloonaa

namespace Go.Proofs.Ytklmckbpbloonaa

/-- All pieces of bs are sorted. -/
def Blks (cur : List Edg) (bs n : Nat) : Prop := ∀ i, Srt cur (i * bs) (min (i * bs + bs) n)
/-- The first k pairs of pieces are merged, the others are not. -/
structure Half (cur : List Edg) (bs n k : Nat) : Prop where
  lo : ∀ i, i < k → Srt cur (i * (2 * bs)) (i * (2 * bs) + 2 * bs)
  hi : ∀ i, 2 * k ≤ i → Srt cur (i * bs) (min (i * bs + bs) n)
section
variable {cur cur' : List Edg} {bs n k : Nat}
theorem twos (k bs : Nat) : k * (2 * bs) = (2 * k) * bs := by rw [Nat.mul_left_comm, Nat.mul_assoc]
theorem Half.start (h : Blks cur bs n) : Half cur bs n 0 := ⟨fun i hi => by omega, fun i _ => h i⟩
theorem Half.left (h : Half cur bs n k) (hb : k * (2 * bs) + 2 * bs ≤ n ∨ k * (2 * bs) + bs ≤ n) : Srt cur (k * (2 * bs)) (k * (2 * bs) + bs) := by
  have := h.hi (2 * k) (Nat.le_refl _)
  rw [← twos] at this
  rwa [Nat.min_eq_left (by omega)] at this
theorem Half.right (h : Half cur bs n k) : Srt cur (k * (2 * bs) + bs) (min (k * (2 * bs) + 2 * bs) n) := by
  have := h.hi (2 * k + 1) (by omega)
  rw [Nat.succ_mul, ← twos] at this
  rwa [show k * (2 * bs) + bs + bs = k * (2 * bs) + 2 * bs by omega] at this
theorem Half.next (h : Half cur bs n k) (hl : Like (k * (2 * bs)) (k * (2 * bs) + 2 * bs) cur cur') (hs : Srt cur' (k * (2 * bs)) (k * (2 * bs) + 2 * bs)) : Half cur' bs n (k + 1) := by
  refine ⟨fun i hi => ?_, fun i hi => ?_⟩
  · by_cases e : i = k
    · subst e; exact hs
    · refine (h.lo i (by omega)).like hl (.inl ?_)
      have := Nat.mul_le_mul_right (2 * bs) (show i + 1 ≤ k by omega)
      rw [Nat.succ_mul] at this; exact this
  · refine (h.hi i (by omega)).like hl (.inr ?_)
    have := Nat.mul_le_mul_right bs (show 2 * k + 1 + 1 ≤ i by omega)
    rw [Nat.succ_mul, Nat.succ_mul, ← twos] at this
    omega
theorem Half.done (h : Half cur bs n k) (ha : k * (2 * bs) ≤ n) (hb : n < k * (2 * bs) + 2 * bs) (hl : Like (k * (2 * bs)) n cur cur') (hs : Srt cur' (k * (2 * bs)) n) : Blks cur' (2 * bs) n := fun i => by
  by_cases e : i < k
  · have e1 := Nat.mul_le_mul_right (2 * bs) (show i + 1 ≤ k by omega)
    rw [Nat.succ_mul] at e1
    rw [Nat.min_eq_left (by omega)]
    exact (h.lo i e).like hl (.inl e1)
  · by_cases e2 : i = k
    · subst e2; rw [Nat.min_eq_right (by omega)]; exact hs
    · have e1 := Nat.mul_le_mul_right (2 * bs) (show k + 1 ≤ i by omega)
      rw [Nat.succ_mul] at e1
      intro p q c1 c2 c3
      have : min (i * (2 * bs) + 2 * bs) n ≤ n := Nat.min_le_right _ _
      omega
/-- Pieces of 20, sorted one by one. -/
structure Ones (cur : List Edg) (k : Nat) : Prop where
  lo : ∀ i, i < k → Srt cur (i * 20) (i * 20 + 20)
theorem Ones.next (h : Ones cur k) (hl : Like (k * 20) (k * 20 + 20) cur cur') (hs : Srt cur' (k * 20) (k * 20 + 20)) : Ones cur' (k + 1) := ⟨fun i hi => by
  by_cases e : i = k
  · subst e; exact hs
  · exact (h.lo i (by omega)).like hl (.inl (by omega))⟩
theorem Ones.done (h : Ones cur k) (ha : k * 20 ≤ n) (hb : n < k * 20 + 20) (hl : Like (k * 20) n cur cur') (hs : Srt cur' (k * 20) n) : Blks cur' 20 n := fun i => by
  by_cases e : i < k
  · rw [Nat.min_eq_left (by omega)]; exact (h.lo i e).like hl (.inl (by omega))
  · by_cases e2 : i = k
    · subst e2; rw [Nat.min_eq_right (by omega)]; exact hs
    · intro p q c1 c2 c3
      have : min (i * 20 + 20) n ≤ n := Nat.min_le_right _ _
      omega
theorem Blks.all (h : Blks cur bs n) (hb : n ≤ bs) : Srt cur 0 n := by
  have := h 0
  rw [Nat.zero_mul, Nat.zero_add, Nat.min_eq_right hb] at this; exact this
end
end Go.Proofs.Ytklmckbpbloonaa

namespace Go.Proofs.Ytklmckbpbloonaa

theorem rise_pair {es : List Edg} (h : ∀ p q, p < q → q < es.length → K es p < K es q) : es.Pairwise fun a b => a.1 < b.1 := by
  rw [List.pairwise_iff_getElem]
  intro i j hi hj hij
  have := h i j hij hj
  rwa [K_at (List.getElem?_eq_getElem hi), K_at (List.getElem?_eq_getElem hj)] at this
theorem rise_unique {es es' : List Edg} (h : es.Pairwise fun a b => a.1 < b.1) (h' : es'.Pairwise fun a b => a.1 < b.1) (hp : es.Perm es') : es = es' :=
  List.Perm.eq_of_pairwise (le := fun a b => a.1 < b.1) (fun a b _ _ h1 h2 => by omega) h h' hp
end Go.Proofs.Ytklmckbpbloonaa

namespace Go.Proofs.Ytklmckbpbloonaa
open Go.RowKit

/-- What a call may have changed: the blocks of S alone, of those that were there. -/
structure Chg (S : List Nat) (w w' : World) : Prop where
  os : w'.os = w.os
  tape : w'.tape = w.tape
  output : w'.output = w.output
  size : w.heap.size ≤ w'.heap.size
  block : ∀ k, k < w.heap.size → k ∉ S → w'.heap[k]? = w.heap[k]?
section
variable {w w' w'' : World} {S S' : List Nat} {B g : Nat} {t : TypeId} {cs : Array Value}
theorem Chg.refl (S : List Nat) (w : World) : Chg S w w := ⟨rfl, rfl, rfl, Nat.le_refl _, fun _ _ _ => rfl⟩
theorem Chg.trans (h : Chg S w w') (h' : Chg S w' w'') : Chg S w w'' :=
  ⟨h'.os.trans h.os, h'.tape.trans h.tape, h'.output.trans h.output, Nat.le_trans h.size h'.size, fun k hk hs => (h'.block k (Nat.lt_of_lt_of_le hk h.size) hs).trans (h.block k hk hs)⟩
theorem Chg.more (h : Chg S w w') (hS : ∀ k, k ∈ S → k ∈ S' ∨ w.heap.size ≤ k) : Chg S' w w' :=
  ⟨h.os, h.tape, h.output, h.size, fun k hk hn => h.block k hk fun hs => by rcases hS k hs with e | e; exact hn e; omega⟩
theorem Chg.of_below (h : Below w.heap.size w w') (S : List Nat) : Chg S w w' := ⟨h.os, h.tape, h.output, h.size, fun k hk _ => h.block k hk⟩
theorem Chg.below (h : Chg S w w') (hB : B ≤ w.heap.size) (hS : ∀ k ∈ S, B ≤ k) : Below B w w' :=
  ⟨h.os, h.tape, h.output, h.size, fun k hk => h.block k (by omega) fun hs => by have := hS k hs; omega⟩
theorem Chg.blk (h : Chg S w w') (hb : Blk w g t cs) (hg : g ∉ S) : Blk w' g t cs := (h.block g hb.lt hg).trans hb
theorem Chg.map {α : Type} {q : IntKind} {enc : α → Value} {m : List (Int × α)} (h : Chg S w w') (hm : MapOf w g q enc m) (hg : g ∉ S) : MapOf w' g q enc m := hm.block (h.block g hm.lt hg)
theorem Chg.drewN (h : Chg S w w') (n : Nat) : Chg S w (w'.drewN n) := ⟨h.os, h.tape, h.output, h.size, h.block⟩
theorem Chg.drew (h : Chg S w w') : Chg S w w'.drew := h.drewN 1
theorem Chg.alloc (h : Chg S w w') (o : Obj) : Chg S w (w'.alloc o) := h.trans (Chg.of_below ((Below.refl _ w').alloc (Nat.le_refl _) o) S)
theorem Chg.setCell (h : Chg S w w') {p : Addr} (hp : p.block ∈ S ∨ w.heap.size ≤ p.block) (u : Value) : Chg S w (w'.setCell p u) := by
  have hb := (Below.refl 0 w').setCell (p := p) (Nat.zero_le _) u
  refine ⟨hb.os.trans h.os, hb.tape.trans h.tape, hb.output.trans h.output, Nat.le_trans h.size hb.size, fun k hk hs => (Below.heap_setCell w' p u k ?_).trans (h.block k hk hs)⟩
  rintro rfl
  rcases hp with e | e
  · exact hs e
  · omega
theorem Chg.grown {row : Option Nat} (h : Chg S w w') (hg : w'.grownBy w'' row) (hr : ∀ g, row = some g → g ∈ S ∨ w.heap.size ≤ g) : Chg S w w'' := by
  have hb := (Below.refl 0 w').grown hg (Nat.zero_le _) (fun _ _ => Nat.zero_le _)
  refine ⟨hb.os.trans h.os, hb.tape.trans h.tape, hb.output.trans h.output, Nat.le_trans h.size hb.size, fun k hk hs => (hg.block k (Nat.lt_of_lt_of_le hk h.size) ?_).trans (h.block k hk hs)⟩
  intro e
  rcases hr k e.symm with e | e
  · exact hs e
  · omega
end

/-- A run of cells written anew. -/
def spl (cs : Array Value) : Nat → List Value → Array Value
  | _, [] => cs
  | o, v :: r => spl (cs.setIfInBounds o v) (o + 1) r
theorem spl_size : ∀ (vs : List Value) (cs : Array Value) (o : Nat), (spl cs o vs).size = cs.size
  | [], _, _ => rfl
  | v :: r, cs, o => by rw [spl, spl_size r]; simp
theorem spl_at : ∀ (vs : List Value) (cs : Array Value) (o j : Nat), o + vs.length ≤ cs.size → (spl cs o vs)[j]? = if o ≤ j ∧ j < o + vs.length then vs[j - o]? else cs[j]?
  | [], cs, o, j, _ => by rw [spl, if_neg (by simp only [List.length_nil]; omega)]
  | v :: r, cs, o, j, h => by
    simp only [List.length_cons] at h ⊢
    rw [spl, spl_at r _ _ _ (by simp; omega)]
    by_cases h1 : o + 1 ≤ j ∧ j < o + 1 + r.length
    · rw [if_pos h1, if_pos (by omega), show j - o = (j - (o + 1)) + 1 by omega, List.getElem?_cons_succ]
    · rw [if_neg h1]
      by_cases h2 : j = o
      · subst h2
        rw [if_pos (by omega), Array.getElem?_setIfInBounds_self_of_lt (by omega), Nat.sub_self]; rfl
      · rw [if_neg (by omega), Array.getElem?_setIfInBounds_ne (by omega)]
theorem spl_list {vs : List Value} {cs : Array Value} {o : Nat} (h : o + vs.length ≤ cs.size) : (spl cs o vs).toList = cs.toList.take o ++ vs ++ cs.toList.drop (o + vs.length) := by
  apply List.ext_getElem?
  intro j
  rw [Array.getElem?_toList, spl_at _ _ _ _ h]
  by_cases h1 : j < o
  · rw [if_neg (by omega), List.append_assoc, List.getElem?_append_left (by simp; omega), List.getElem?_take_of_lt h1, Array.getElem?_toList]
  · by_cases h2 : j < o + vs.length
    · rw [if_pos (by omega), List.append_assoc, List.getElem?_append_right (by simp; omega), List.getElem?_append_left (by simp; omega)]
      congr 1; simp; omega
    · rw [if_neg (by omega), List.getElem?_append_right (by simp; omega), List.getElem?_drop, Array.getElem?_toList]
      congr 1; simp; omega
theorem Blk.setCells : ∀ {vs : List Value} {w : World} {g o : Nat} {t : TypeId} {cs : Array Value}, Blk w g t cs → Blk (w.setCells g o vs) g t (spl cs o vs)
  | [], _, _, _, _, _, h => h
  | v :: r, _, _, _, _, _, h => Blk.setCells (vs := r) (h.set_ _ v)
theorem Chg.setCells {S : List Nat} {g : Nat} : ∀ {vs : List Value} {w w' : World} {o : Nat}, Chg S w w' → (g ∈ S ∨ w.heap.size ≤ g) → Chg S w (w'.setCells g o vs)
  | [], _, _, _, h, _ => h
  | v :: r, _, _, _, h, hg => Chg.setCells (vs := r) (h.setCell (p := ⟨g, _, none⟩) hg v) hg

end Go.Proofs.Ytklmckbpbloonaa

namespace Go.Proofs.Ytklmckbpbloonaa
open Go.RowKit

section
variable {P : Program} {ops : Array Oper} {Q : Exit → Act → World → Prop} {md : Region.Mode} {S : World → Prop} {fuel : Nat} {listed : Array Bool} {a : Act} {w : World}
theorem held_take (i d : Nat) (v : Value) {oi : Oper} (hi : ops[i]? = some oi) (hd : oi.dst = some d) (hw : Region.wanted oi (yielded ops a.tmps) = true)
    (hs : Region.noSelect ops = true) (hf : Region.free md ops listed i = true) (hr : (Region.ready md ops listed).contains i = true)
    (hQ : ∀ c (a : Act) t w, Q (.panic c) { a with tmps := t } w → Q (.panic c) a w) (hy : ∀ W, S W → (execOp a.eval oi).run P W = .ok (.value v) W) (hS : S w)
    (h : wpAnyH P md ops Q S fuel (listed.setIfInBounds i true) { a with tmps := a.tmps.setIfInBounds d v } w) : wpAnyH P md ops Q S (fuel + 1) listed a w := by
  refine wpAnyH_take hi hs hf hr (fun c a w h => hQ c a _ w (by rw [hd] at h; exact h)) (Or.inl ⟨hw, hy⟩) hS ?_
  rw [hd]
  exact h
/-- An operation that is not wanted (its guard is false). -/
theorem held_skip (i d : Nat) {oi : Oper} (hi : ops[i]? = some oi) (hd : oi.dst = some d) (hw : Region.wanted oi (yielded ops a.tmps) = false)
    (hs : Region.noSelect ops = true) (hf : Region.free md ops listed i = true) (hr : (Region.ready md ops listed).contains i = true)
    (hQ : ∀ c (a : Act) t w, Q (.panic c) { a with tmps := t } w → Q (.panic c) a w) (hS : S w)
    (h : wpAnyH P md ops Q S fuel (listed.setIfInBounds i true) { a with tmps := a.tmps.setIfInBounds d undef } w) : wpAnyH P md ops Q S (fuel + 1) listed a w := by
  refine wpAnyH_take hi hs hf hr (fun c a w h => hQ c a _ w (by rw [hd] at h; exact h)) (Or.inr ⟨hw, rfl⟩) hS ?_
  rw [hd]
  exact h
/-- A call that alone may come up next. -/
theorem held_call (i d : Nat) (f : FuncId) (args : Array Value) {oi : Oper} (hi : ops[i]? = some oi) (hd : oi.dst = some d) (hw : Region.wanted oi (yielded ops a.tmps) = true)
    (hr : Region.ready md ops listed = [i]) (he : ∀ W, (execOp a.eval oi).run P W = .ok (.enter f args) W)
    (hc : Calls P f args w fun e w' => ∃ v, e = .returned v ∧ S w' ∧ wpAnyH P md ops Q S fuel (listed.setIfInBounds i true) { a with tmps := a.tmps.setIfInBounds d v } w') : wpAnyH P md ops Q S (fuel + 1) listed a w := by
  refine wpAnyH_ready (rs := [i]) hr (by simp) (AllReadyH.cons hi (fun K hK => ?_) AllReadyH.nil)
  rw [if_pos hw]
  unfold Oper.wp
  rw [he]
  refine hc.mono ?_
  rintro e w' ⟨v, rfl, h1, h2⟩
  refine hK.out _ _ h1 (fun _ => ?_)
  rw [hd]
  exact h2
/-- An operation that alone may come up next, and yields in this world. -/
theorem held_one (i d : Nat) (v : Value) {oi : Oper} (hi : ops[i]? = some oi) (hd : oi.dst = some d) (hw : Region.wanted oi (yielded ops a.tmps) = true)
    (hr : Region.ready md ops listed = [i]) (hy : (execOp a.eval oi).run P w = .ok (.value v) w) (hS : S w)
    (h : wpAnyH P md ops Q S fuel (listed.setIfInBounds i true) { a with tmps := a.tmps.setIfInBounds d v } w) : wpAnyH P md ops Q S (fuel + 1) listed a w := by
  refine wpAnyH_ready (rs := [i]) hr (by simp) (AllReadyH.cons hi (fun K hK => ?_) AllReadyH.nil)
  rw [if_pos hw]
  unfold Oper.wp
  rw [hy]
  refine hK.out _ _ hS (fun _ => ?_)
  rw [hd]
  exact h
/-- Two operations that may come up next, and no other; each yields in this world, ahead of the other one and behind it. -/
theorem held_two (i j di dj : Nat) (vi vj : Value) {oi oj : Oper} (hi : ops[i]? = some oi) (hj : ops[j]? = some oj) (hdi : oi.dst = some di) (hdj : oj.dst = some dj)
    (hne : i ≠ j) (hde : di ≠ dj) (hwi : Region.wanted oi (yielded ops a.tmps) = true) (hwj : Region.wanted oj (yielded ops a.tmps) = true)
    (hwi' : Region.wanted oi (yielded ops (a.tmps.setIfInBounds dj vj)) = true) (hwj' : Region.wanted oj (yielded ops (a.tmps.setIfInBounds di vi)) = true)
    (hr : Region.ready md ops listed = [i, j]) (hri : Region.ready md ops (listed.setIfInBounds i true) = [j]) (hrj : Region.ready md ops (listed.setIfInBounds j true) = [i])
    (hyi : (execOp a.eval oi).run P w = .ok (.value vi) w) (hyj : (execOp a.eval oj).run P w = .ok (.value vj) w)
    (hyi' : (execOp ({ a with tmps := a.tmps.setIfInBounds dj vj } : Act).eval oi).run P w = .ok (.value vi) w) (hyj' : (execOp ({ a with tmps := a.tmps.setIfInBounds di vi } : Act).eval oj).run P w = .ok (.value vj) w) (hS : S w)
    (h : wpAnyH P md ops Q S fuel ((listed.setIfInBounds i true).setIfInBounds j true) { a with tmps := (a.tmps.setIfInBounds di vi).setIfInBounds dj vj } w) : wpAnyH P md ops Q S (fuel + 2) listed a w := by
  refine wpAnyH_ready (rs := [i, j]) hr (by simp) (AllReadyH.cons hi (fun K hK => ?_) (AllReadyH.cons hj (fun K hK => ?_) AllReadyH.nil))
  · rw [if_pos hwi]
    unfold Oper.wp
    rw [hyi]
    refine hK.out _ _ hS (fun _ => ?_)
    rw [hdi]
    exact held_one j dj vj hj hdj hwj' hri hyj' hS h
  · rw [if_pos hwj]
    unfold Oper.wp
    rw [hyj]
    refine hK.out _ _ hS (fun _ => ?_)
    rw [hdj]
    refine held_one i di vi hi hdi hwi' hrj hyi' hS ?_
    rw [Array.setIfInBounds_comm _ _ hne.symm]
    have e : ((a.put (some dj) vj).tmps.setIfInBounds di vi) = (a.tmps.setIfInBounds di vi).setIfInBounds dj vj := Array.setIfInBounds_comm _ _ hde.symm
    rw [e]
    exact h
/-- What is held may become more on the way. -/
theorem held_more {S' : World → Prop} (hSS : ∀ W, S' W → S W) : ∀ {fuel : Nat} {listed : Array Bool} {a : Act} {w : World}, wpAnyH P md ops Q S' fuel listed a w → wpAnyH P md ops Q S fuel listed a w
  | 0, _, _, _, h => h
  | _ + 1, _, _, _, h => ⟨h.1, fun i hi => wpOp_mono (fun _ _ h' => ⟨hSS _ h'.1, held_more hSS h'.2⟩) (h.2 i hi)⟩
end
end Go.Proofs.Ytklmckbpbloonaa

namespace Go.Proofs.Ytklmckbpbloonaa
open Go.RowKit

def edC (e : Edg) : List Value := [.int .u32 e.1, .int .u32 e.2.1, .int .u32 e.2.2]
def edV (e : Edg) : Value := .agg (edC e).toArray
def okE (e : Edg) : Prop := (0 ≤ e.1 ∧ e.1 < 4294967296) ∧ (0 ≤ e.2.1 ∧ e.2.1 < 4294967296) ∧ (0 ≤ e.2.2 ∧ e.2.2 < 4294967296)
theorem Ed_set : ∀ {es : List Edg} {i : Nat} {e : Edg}, i < es.length → Ed (es.set i e) = (Ed es).take (i * 3) ++ edC e ++ (Ed es).drop (i * 3 + 3)
  | [], i, e, h => by simp at h
  | x :: es, 0, e, _ => by simp [Ed, edC]
  | x :: es, i + 1, e, h => by
    have ih := Ed_set (es := es) (i := i) (e := e) (by simpa using h)
    have e1 : (i + 1) * 3 = i * 3 + 3 := by omega
    simp only [List.set_cons_succ, Ed, List.flatMap_cons] at ih ⊢
    rw [ih, e1]
    simp [List.take_append, List.drop_append]
/-- Block g holds the row es at its head; its capacity is c. -/
def RowE (w : World) (g c : Nat) (es : List Edg) : Prop := ∃ tail : List Value, Blk w g 39 (Ed es ++ tail).toArray ∧ tail.length = (c - es.length) * 3 ∧ es.length ≤ c ∧ c ≤ 9223372036854775807 ∧ edgs es
section
variable {w w' : World} {g c k : Nat} {es : List Edg} {e : Edg} {S : List Nat}
theorem RowE.cap (h : RowE w g c es) : es.length ≤ c ∧ c ≤ 9223372036854775807 := ⟨h.choose_spec.2.2.1, h.choose_spec.2.2.2.1⟩
theorem RowE.ok (h : RowE w g c es) : edgs es := h.choose_spec.2.2.2.2
theorem RowE.lt (h : RowE w g c es) : g < w.heap.size := h.choose_spec.1.lt
theorem RowE.okAt (h : RowE w g c es) (hk : es[k]? = some e) : okE e := h.ok e (List.mem_of_getElem? hk)
theorem RowE.cells (h : RowE w g c es) (hk : es[k]? = some e) : w.cell? ⟨g, k * 3, none⟩ = some (.int .u32 e.1) ∧ w.cell? ⟨g, k * 3 + 1, none⟩ = some (.int .u32 e.2.1) ∧ w.cell? ⟨g, k * 3 + 2, none⟩ = some (.int .u32 e.2.2) := by
  obtain ⟨tail, hb, _⟩ := h
  obtain ⟨h1, h2, h3⟩ := Ed_at hk
  have hl := (List.getElem?_eq_some_iff.1 hk).1
  have hlen := Ed_len es
  refine ⟨?_, ?_, ?_⟩
  · rw [hb.cell, List.getElem?_toArray, List.getElem?_append_left (by omega), h1]
  · rw [hb.cell, List.getElem?_toArray, List.getElem?_append_left (by omega), h2]
  · rw [hb.cell, List.getElem?_toArray, List.getElem?_append_left (by omega), h3]
theorem RowE.there (h : RowE w g c es) (hk : k < es.length) : w.there g (k * 3) 3 := fun j hj => by
  obtain ⟨tail, hb, _⟩ := h
  have hlen := Ed_len es
  refine ⟨?_, hb.frozen _⟩
  rw [hb.cell, List.getElem?_toArray, List.getElem?_append_left (by omega), List.getElem?_eq_getElem (by omega)]; rfl
theorem RowE.put (h : RowE w g c es) (hk : k < es.length) (he : okE e) : RowE (w.setCells g (k * 3) (edC e)) g c (es.set k e) := by
  obtain ⟨tail, hb, h1, h2, h3, h4⟩ := h
  have hlen := Ed_len es
  refine ⟨tail, ?_, by rw [List.length_set]; exact h1, by rw [List.length_set]; exact h2, h3, fun x hx => ?_⟩
  · have := hb.setCells (vs := edC e) (o := k * 3)
    have e1 : spl (Ed es ++ tail).toArray (k * 3) (edC e) = (Ed (es.set k e) ++ tail).toArray := by
      apply Array.toList_inj.1
      rw [spl_list (by simp [edC]; omega), Ed_set hk]
      simp only [edC, List.length_cons, List.length_nil]
      rw [List.take_append_of_le_length (by omega), List.drop_append_of_le_length (by omega)]
      simp
    rwa [e1] at this
  · rcases List.mem_or_eq_of_mem_set hx with hx | rfl
    · exact h4 x hx
    · exact he
theorem RowE.keep (h : RowE w g c es) (hb : w'.heap[g]? = w.heap[g]?) : RowE w' g c es := by
  obtain ⟨tail, h0, h1⟩ := h
  exact ⟨tail, hb.trans h0, h1⟩
theorem RowE.chg (h : RowE w g c es) (hc : Chg S w w') (hg : g ∉ S) : RowE w' g c es := h.keep (hc.block g h.lt hg)
theorem RowE.on (h : RowE w g c es) (hb : Below w.heap.size w w') : RowE w' g c es := h.keep (hb.block g h.lt)
theorem infoEd : (Try.prog.info? 39).map (·.size) = some 3 := by kernel_rfl
theorem size_setC' (g : Nat) : ∀ (vs : List Value) (o : Nat) (w : World), (w.setCells g o vs).heap.size = w.heap.size
  | [], _, _ => rfl
  | v :: r, o, w => (size_setC' g r _ _).trans (by simp)
end
theorem exec_loadE {W : World} {o : Oper} {a : Act} {x : Operand} {g c k : Nat} {es : List Edg} {e : Edg} (ho : o.op = .load 39 x) (hx : a.eval x = .pointer (some ⟨g, k * 3, none⟩)) (h : RowE W g c es) (hk : es[k]? = some e) : (execOp a.eval o).run Try.prog W = .ok (.value (edV e)) W := by
  obtain ⟨h1, h2, h3⟩ := h.cells hk
  unfold execOp
  simp only [ho, hx]
  unfold edV edC
  go_simp
section
variable {ops : Array Oper} {Q : Exit → Act → World → Prop} {md : Region.Mode} {S : World → Prop} {fuel : Nat} {listed : Array Bool} {a : Act} {w : World}
/-- An edge is stored into the row, by an operation that alone may come up next. -/
theorem held_storeE (i : Nat) {oi : Oper} (hi : ops[i]? = some oi) (hd : oi.dst = none) (hw : Region.wanted oi (yielded ops a.tmps) = true)
    (hr : Region.ready md ops listed = [i]) (x y : Operand) (ho : oi.op = .store 39 x y) (g c k : Nat) (es : List Edg) (e : Edg) (hx : a.eval x = .pointer (some ⟨g, k * 3, none⟩)) (hy : a.eval y = edV e)
    (hrow : RowE w g c es) (hk : k < es.length) (he : okE e)
    (h : ∀ w', RowE w' g c (es.set k e) → Chg [g] w w' → w'.heap.size = w.heap.size → S w' ∧ wpAnyH Try.prog md ops Q S fuel (listed.setIfInBounds i true) a w') : wpAnyH Try.prog md ops Q S (fuel + 1) listed a w := by
  refine wpAnyH_ready (rs := [i]) hr (by simp) (AllReadyH.cons hi (fun K hK => ?_) AllReadyH.nil)
  rw [if_pos hw]
  refine wp_store_mid 39 x y ho g (k * 3) (edC e).toArray hx hy (by simpa [edC] using hrow.there hk) (by simpa [edC] using infoEd) (all_oneCell_toArray fun v hv => by simp only [edC, List.mem_cons, List.not_mem_nil, or_false] at hv; rcases hv with rfl | rfl | rfl <;> rfl) ?_
  rw [hd]
  obtain ⟨h1, h2⟩ := h _ (hrow.put hk he) ((Chg.refl [g] w).setCells (by simp)) (size_setC' _ _ _ _)
  exact hK.out _ _ h1 (fun _ => h2)
end
end Go.Proofs.Ytklmckbpbloonaa

namespace Go.Proofs.Ytklmckbpbloonaa
open Go.RowKit

theorem RowE.drew' {w : World} {g c : Nat} {es : List Edg} (h : RowE w g c es) : RowE w.drew g c es := h.keep rfl
set_option maxRecDepth 100000 in
theorem swapRange_any (g c a b m : Nat) (es : List Edg) (fv : Value) (w : World) (h : RowE w g c es) (ha : a + m ≤ b) (hb : b + m ≤ es.length) :
    Calls Try.prog 170 #[.slice (some ⟨g, 0, none⟩) es.length c, .int .i64 a, .int .i64 b, .int .i64 m, fv] w fun e w' => e = .returned (.tuple #[]) ∧ RowE w' g c (swr es a b m) ∧ Chg [g] w w' := by
  obtain ⟨hc1, hc2⟩ := h.cap
  have HW := Lib.hid h
  generalize hn : es.length = nn at *
  clear h
  go_enter Try.func170, Try.ntmps170
  go_wp2_with fail
  go_loopw [10] (fun i wr => ∃ k : Nat, k ≤ m ∧ i = .int .i64 k ∧ RowE wr g c (swr es a b k) ∧ Chg [g] w wr) (fun i _ => m - (intOf i).toNat)
  case atStart => exact ⟨0, by omega, rfl, HW.out, Chg.refl _ _⟩
  case round =>
    obtain ⟨k, hk, rfl, hr, hC⟩ := hrel
    have HR := Lib.hid hr
    have HC := Lib.hid hC
    have hlen : (swr es a b k).length = nn := by rw [swr_len]; exact hn
    clear hr hC
    by_cases hlt : k < m
    · have hka : a + k < (swr es a b k).length := by omega
      have hkb : b + k < (swr es a b k).length := by omega
      have hx : (swr es a b k)[a + k]? = some (swr es a b k)[a + k] := List.getElem?_eq_getElem hka
      have hy : (swr es a b k)[b + k]? = some (swr es a b k)[b + k] := List.getElem?_eq_getElem hkb
      generalize (swr es a b k)[a + k] = x at hx
      generalize (swr es a b k)[b + k] = y at hy
      have hox := HR.out.okAt hx
      have hoy := HR.out.okAt hy
      have hsw := swp_eq hx hy
      have q1 : IntKind.i64.wrap ((a : Int) + (k : Int)) = (a : Int) + (k : Int) := IntWalk.i64_in _ (by omega)
      have q2 : IntKind.i64.wrap ((b : Int) + (k : Int)) = (b : Int) + (k : Int) := IntWalk.i64_in _ (by omega)
      have q3 : (a : Int) + (k : Int) < (nn : Int) := by omega
      have q4 : (b : Int) + (k : Int) < (nn : Int) := by omega
      have q5 : ¬ ((a : Int) + (k : Int) < 0) := by omega
      have q6 : ¬ ((b : Int) + (k : Int) < 0) := by omega
      go_wp2_with fail
      refine wp_region_held_drew (S := fun _ => True) (by kernel_rfl) trivial (fun hHeld => ?_)
      refine held_take 0 16 (.slice (some ⟨g, 0, none⟩) nn c) (by simp only [List.getElem?_toArray, List.getElem?_cons_zero]; rfl) rfl rfl (by kernel_rfl) (by kernel_rfl) (by kernel_rfl) (fun _ _ _ _ h => h) (by intro W hW; go_simp) hHeld ?_
      simp only [List.setIfInBounds_toArray, List.set_cons_zero, List.set_cons_succ]
      refine held_take 1 17 (.int .i64 a) (by simp only [List.getElem?_toArray, List.getElem?_cons_succ, List.getElem?_cons_zero]; rfl) rfl rfl (by kernel_rfl) (by kernel_rfl) (by kernel_rfl) (fun _ _ _ _ h => h) (by intro W hW; go_simp) hHeld ?_
      simp only [List.setIfInBounds_toArray, List.set_cons_zero, List.set_cons_succ]
      refine held_take 2 18 (.int .i64 k) (by simp only [List.getElem?_toArray, List.getElem?_cons_succ, List.getElem?_cons_zero]; rfl) rfl rfl (by kernel_rfl) (by kernel_rfl) (by kernel_rfl) (fun _ _ _ _ h => h) (by intro W hW; go_simp) hHeld ?_
      simp only [List.setIfInBounds_toArray, List.set_cons_zero, List.set_cons_succ]
      refine held_take 3 19 (.int .i64 ((a + k : Nat) : Int)) (by simp only [List.getElem?_toArray, List.getElem?_cons_succ, List.getElem?_cons_zero]; rfl) rfl rfl (by kernel_rfl) (by kernel_rfl) (by kernel_rfl) (fun _ _ _ _ h => h) (by intro W hW; go_simp) hHeld ?_
      simp only [List.setIfInBounds_toArray, List.set_cons_zero, List.set_cons_succ]
      refine held_take 4 20 (.slice (some ⟨g, 0, none⟩) nn c) (by simp only [List.getElem?_toArray, List.getElem?_cons_succ, List.getElem?_cons_zero]; rfl) rfl rfl (by kernel_rfl) (by kernel_rfl) (by kernel_rfl) (fun _ _ _ _ h => h) (by intro W hW; go_simp) hHeld ?_
      simp only [List.setIfInBounds_toArray, List.set_cons_zero, List.set_cons_succ]
      refine held_take 5 21 (.int .i64 b) (by simp only [List.getElem?_toArray, List.getElem?_cons_succ, List.getElem?_cons_zero]; rfl) rfl rfl (by kernel_rfl) (by kernel_rfl) (by kernel_rfl) (fun _ _ _ _ h => h) (by intro W hW; go_simp) hHeld ?_
      simp only [List.setIfInBounds_toArray, List.set_cons_zero, List.set_cons_succ]
      refine held_take 6 22 (.int .i64 k) (by simp only [List.getElem?_toArray, List.getElem?_cons_succ, List.getElem?_cons_zero]; rfl) rfl rfl (by kernel_rfl) (by kernel_rfl) (by kernel_rfl) (fun _ _ _ _ h => h) (by intro W hW; go_simp) hHeld ?_
      simp only [List.setIfInBounds_toArray, List.set_cons_zero, List.set_cons_succ]
      refine held_take 7 23 (.int .i64 ((b + k : Nat) : Int)) (by simp only [List.getElem?_toArray, List.getElem?_cons_succ, List.getElem?_cons_zero]; rfl) rfl rfl (by kernel_rfl) (by kernel_rfl) (by kernel_rfl) (fun _ _ _ _ h => h) (by intro W hW; go_simp) hHeld ?_
      simp only [List.setIfInBounds_toArray, List.set_cons_zero, List.set_cons_succ]
      refine held_take 8 24 (.slice (some ⟨g, 0, none⟩) nn c) (by simp only [List.getElem?_toArray, List.getElem?_cons_succ, List.getElem?_cons_zero]; rfl) rfl rfl (by kernel_rfl) (by kernel_rfl) (by kernel_rfl) (fun _ _ _ _ h => h) (by intro W hW; go_simp) hHeld ?_
      simp only [List.setIfInBounds_toArray, List.set_cons_zero, List.set_cons_succ]
      refine held_take 9 25 (.int .i64 b) (by simp only [List.getElem?_toArray, List.getElem?_cons_succ, List.getElem?_cons_zero]; rfl) rfl rfl (by kernel_rfl) (by kernel_rfl) (by kernel_rfl) (fun _ _ _ _ h => h) (by intro W hW; go_simp) hHeld ?_
      simp only [List.setIfInBounds_toArray, List.set_cons_zero, List.set_cons_succ]
      refine held_take 10 26 (.int .i64 k) (by simp only [List.getElem?_toArray, List.getElem?_cons_succ, List.getElem?_cons_zero]; rfl) rfl rfl (by kernel_rfl) (by kernel_rfl) (by kernel_rfl) (fun _ _ _ _ h => h) (by intro W hW; go_simp) hHeld ?_
      simp only [List.setIfInBounds_toArray, List.set_cons_zero, List.set_cons_succ]
      refine held_take 11 27 (.int .i64 ((b + k : Nat) : Int)) (by simp only [List.getElem?_toArray, List.getElem?_cons_succ, List.getElem?_cons_zero]; rfl) rfl rfl (by kernel_rfl) (by kernel_rfl) (by kernel_rfl) (fun _ _ _ _ h => h) (by intro W hW; go_simp) hHeld ?_
      simp only [List.setIfInBounds_toArray, List.set_cons_zero, List.set_cons_succ]
      refine held_take 12 28 (.pointer (some ⟨g, ((b + k) * 3), none⟩)) (by simp only [List.getElem?_toArray, List.getElem?_cons_succ, List.getElem?_cons_zero]; rfl) rfl rfl (by kernel_rfl) (by kernel_rfl) (by kernel_rfl) (fun _ _ _ _ h => h) (by intro W hW; go_simp) hHeld ?_
      simp only [List.setIfInBounds_toArray, List.set_cons_zero, List.set_cons_succ]
      refine held_take 14 30 (.slice (some ⟨g, 0, none⟩) nn c) (by simp only [List.getElem?_toArray, List.getElem?_cons_succ, List.getElem?_cons_zero]; rfl) rfl rfl (by kernel_rfl) (by kernel_rfl) (by kernel_rfl) (fun _ _ _ _ h => h) (by intro W hW; go_simp) hHeld ?_
      simp only [List.setIfInBounds_toArray, List.set_cons_zero, List.set_cons_succ]
      refine held_take 15 31 (.int .i64 a) (by simp only [List.getElem?_toArray, List.getElem?_cons_succ, List.getElem?_cons_zero]; rfl) rfl rfl (by kernel_rfl) (by kernel_rfl) (by kernel_rfl) (fun _ _ _ _ h => h) (by intro W hW; go_simp) hHeld ?_
      simp only [List.setIfInBounds_toArray, List.set_cons_zero, List.set_cons_succ]
      refine held_take 16 32 (.int .i64 k) (by simp only [List.getElem?_toArray, List.getElem?_cons_succ, List.getElem?_cons_zero]; rfl) rfl rfl (by kernel_rfl) (by kernel_rfl) (by kernel_rfl) (fun _ _ _ _ h => h) (by intro W hW; go_simp) hHeld ?_
      simp only [List.setIfInBounds_toArray, List.set_cons_zero, List.set_cons_succ]
      refine held_take 17 33 (.int .i64 ((a + k : Nat) : Int)) (by simp only [List.getElem?_toArray, List.getElem?_cons_succ, List.getElem?_cons_zero]; rfl) rfl rfl (by kernel_rfl) (by kernel_rfl) (by kernel_rfl) (fun _ _ _ _ h => h) (by intro W hW; go_simp) hHeld ?_
      simp only [List.setIfInBounds_toArray, List.set_cons_zero, List.set_cons_succ]
      refine held_take 18 34 (.pointer (some ⟨g, ((a + k) * 3), none⟩)) (by simp only [List.getElem?_toArray, List.getElem?_cons_succ, List.getElem?_cons_zero]; rfl) rfl rfl (by kernel_rfl) (by kernel_rfl) (by kernel_rfl) (fun _ _ _ _ h => h) (by intro W hW; go_simp) hHeld ?_
      simp only [List.setIfInBounds_toArray, List.set_cons_zero, List.set_cons_succ]
      refine held_two 13 19 29 35 (edV y) (edV x) (by simp only [List.getElem?_toArray, List.getElem?_cons_succ, List.getElem?_cons_zero]; rfl) (by simp only [List.getElem?_toArray, List.getElem?_cons_succ, List.getElem?_cons_zero]; rfl) rfl rfl (by decide) (by decide) rfl rfl rfl rfl (by kernel_rfl) (by kernel_rfl) (by kernel_rfl) (exec_loadE rfl rfl HR.out.drew' hy) (exec_loadE rfl rfl HR.out.drew' hx) (exec_loadE rfl rfl HR.out.drew' hy) (exec_loadE rfl rfl HR.out.drew' hx) trivial ?_
      simp only [List.setIfInBounds_toArray, List.set_cons_zero, List.set_cons_succ]
      refine held_take 20 36 (.pointer (some ⟨g, ((a + k) * 3), none⟩)) (by simp only [List.getElem?_toArray, List.getElem?_cons_succ, List.getElem?_cons_zero]; rfl) rfl rfl (by kernel_rfl) (by kernel_rfl) (by kernel_rfl) (fun _ _ _ _ h => h) (by intro W hW; go_simp) hHeld ?_
      simp only [List.setIfInBounds_toArray, List.set_cons_zero, List.set_cons_succ]
      refine held_storeE 21 (by simp only [List.getElem?_toArray, List.getElem?_cons_succ, List.getElem?_cons_zero]; rfl) rfl rfl (by kernel_rfl) (.tmp 36) (.tmp 29) rfl g c (a + k) _ y rfl rfl HR.out.drew' hka hoy ?_
      intro w1 r1 C1 z1
      refine ⟨trivial, ?_⟩
      refine held_take 22 37 (.pointer (some ⟨g, ((b + k) * 3), none⟩)) (by simp only [List.getElem?_toArray, List.getElem?_cons_succ, List.getElem?_cons_zero]; rfl) rfl rfl (by kernel_rfl) (by kernel_rfl) (by kernel_rfl) (fun _ _ _ _ h => h) (by intro W hW; go_simp) hHeld ?_
      simp only [List.setIfInBounds_toArray, List.set_cons_zero, List.set_cons_succ]
      refine held_storeE 23 (by simp only [List.getElem?_toArray, List.getElem?_cons_succ, List.getElem?_cons_zero]; rfl) rfl rfl (by kernel_rfl) (.tmp 37) (.tmp 35) rfl g c (b + k) _ x rfl rfl r1 (by rw [List.length_set]; exact hkb) hox ?_
      intro w2 r2 C2 z2
      refine ⟨trivial, ?_⟩
      refine wpAnyH_done (by kernel_rfl) ?_ _
      go_wp2
      go_roundw
      case rel =>
        refine ⟨k + 1, by omega, by go_num, ?_, (HC.out.drew.trans C1).trans C2⟩
        show RowE _ g c (swp (swr es a b k) (a + k) (b + k))
        rw [hsw]; exact r2
      case measure => simp [intOf]; omega
    · obtain rfl : k = m := by omega
      go_wp2_with fail
      go_end0
      exact ⟨rfl, HR.out, HC.out⟩
end Go.Proofs.Ytklmckbpbloonaa

namespace Go.Proofs.Ytklmckbpbloonaa
open Go.RowKit

set_option maxRecDepth 100000 in
set_option maxHeartbeats 1000000 in
theorem rotate_any (g c : Nat) (X U V Y : List Edg) (fv : Value) (w : World) (h : RowE w g c (X ++ U ++ V ++ Y)) (hU : 0 < U.length) (hV : 0 < V.length) :
    Calls Try.prog 156 #[.slice (some ⟨g, 0, none⟩) (X ++ U ++ V ++ Y).length c, .int .i64 X.length, .int .i64 (X.length + U.length : Nat), .int .i64 (X.length + U.length + V.length : Nat), fv] w fun e w' => e = .returned (.tuple #[]) ∧ RowE w' g c (X ++ V ++ U ++ Y) ∧ Chg [g] w w' := by
  obtain ⟨hc1, hc2⟩ := h.cap
  have HW := Lib.hid h
  have hlen : (X ++ U ++ V ++ Y).length = X.length + U.length + V.length + Y.length := by simp; omega
  generalize hn : (X ++ U ++ V ++ Y).length = nn at *
  generalize ha : X.length = a at *
  generalize hi : U.length = i0 at *
  generalize hj : V.length = j0 at *
  generalize hy : Y.length = y0 at *
  have p1 : IntKind.i64.wrap (((a + i0 : Nat) : Int) - (a : Int)) = (i0 : Int) := by rw [IntWalk.i64_in _ (by omega)]; omega
  have p2 : IntKind.i64.wrap (((a + i0 + j0 : Nat) : Int) - ((a + i0 : Nat) : Int)) = (j0 : Int) := by rw [IntWalk.i64_in _ (by omega)]; omega
  have HI : Hid (∃ X' U' V' Y' : List Edg, X ++ U ++ V ++ Y = X' ++ U' ++ V' ++ Y' ∧ X ++ V ++ U ++ Y = X' ++ V' ++ U' ++ Y' ∧ X'.length + U'.length = a + i0 ∧ U'.length = i0 ∧ V'.length = j0) := ⟨X, U, V, Y, rfl, rfl, by omega, hi, hj⟩
  generalize X ++ U ++ V ++ Y = cur0 at *
  generalize X ++ V ++ U ++ Y = tgt at *
  generalize hm : a + i0 = m at *
  generalize hb : m + j0 = b0 at *
  have HLN := Lib.hid hlen
  clear h hi hj hy ha hlen
  go_enter Try.func156, Try.ntmps156
  go_wp2_with fail
  go_loopw [10, 11] (fun s10 s11 wr => ∃ (i j : Nat) (X' U' V' Y' : List Edg), s10 = .int .i64 i ∧ s11 = .int .i64 j ∧ 0 < i ∧ 0 < j ∧ RowE wr g c (X' ++ U' ++ V' ++ Y') ∧ Hid (tgt = X' ++ V' ++ U' ++ Y' ∧ X'.length + U'.length = m ∧ U'.length = i ∧ V'.length = j ∧ (X' ++ U' ++ V' ++ Y').length = nn) ∧ Chg [g] w wr) (fun s10 s11 _ => (intOf s10).toNat + (intOf s11).toNat)
  case atStart =>
    obtain ⟨X', U', V', Y', e1, e2, e3, e4, e5⟩ := HI.out
    exact ⟨i0, j0, X', U', V', Y', by go_num, by go_num, hU, hV, by rw [← e1]; exact HW.out, ⟨e2, by omega, e4, e5, by rw [← e1]; exact hn⟩, Chg.refl _ _⟩
  case round =>
    clear HI HW
    obtain ⟨i, j, X', U', V', Y', rfl, rfl, hi, hj, hr, hH, hC⟩ := hrel
    obtain ⟨e1, e2, e3, e4, e5⟩ := hH.out
    have e6 : X'.length + U'.length + V'.length + Y'.length = nn := by rw [← e5]; simp; omega
    have HR := Lib.hid hr
    have HC := Lib.hid hC
    have HT := Lib.hid e1
    have r1 : IntKind.i64.wrap ((m : Int) - (i : Int)) = ((m - i : Nat) : Int) := by rw [IntWalk.i64_in _ (by omega)]; omega
    have r2 : IntKind.i64.wrap ((m : Int) + (j : Int)) = (m : Int) + (j : Int) := IntWalk.i64_in _ (by omega)
    have r3 : IntKind.i64.wrap ((m : Int) + (j : Int) - (i : Int)) = ((m + j - i : Nat) : Int) := by rw [IntWalk.i64_in _ (by omega)]; omega
    have hsw : ∀ a b k : Nat, a + k ≤ b → b + k ≤ nn → Calls Try.prog 170 #[.slice (some ⟨g, 0, none⟩) nn c, .int .i64 a, .int .i64 b, .int .i64 k, fv] wr fun e w' => e = .returned (.tuple #[]) ∧ RowE w' g c (swr (X' ++ U' ++ V' ++ Y') a b k) ∧ Chg [g] wr w' := fun a b k h1 h2 => by
      have := swapRange_any g c a b k _ fv wr HR.out h1 (by rw [e5]; exact h2)
      rwa [e5] at this
    clear hr hC hH e1
    by_cases hne : i = j
    · subst hne
      go_wp2_with (go_at_call 170; refine (hsw (m - i) m i (by omega) (by omega)).mono ?_; rintro e w2 ⟨rfl, q1, q2⟩)
      go_end0
      refine ⟨rfl, ?_, HC.out.trans q2⟩
      have := swr_pieces (X := X') (S := U') (Y := []) (T := V') (Z := Y') (by omega)
      simp only [List.append_nil, List.length_nil, Nat.add_zero, e3, show X'.length = m - i by omega, show m - i + i = m by omega] at this
      rw [HT.out, ← this]; exact q1
    · have hne1 : ((i : Int) != (j : Int)) = true := by simp; omega
      by_cases hij : j < i
      · go_wp2_with (go_at_call 170; refine (hsw (m - i) m j (by omega) (by omega)).mono ?_; rintro e w2 ⟨rfl, q1, q2⟩)
        go_roundw
        case rel =>
          have := swr_pieces (X := X') (S := U'.take j) (Y := U'.drop j) (T := V') (Z := Y') (by simp; omega)
          have el : (U'.take j).length = j := by simp; omega
          have ed : (U'.drop j).length = i - j := by simp; omega
          rw [el, ed, show X'.length = m - i by omega, show m - i + j + (i - j) = m by omega] at this
          have eq : X' ++ U'.take j ++ U'.drop j ++ V' ++ Y' = X' ++ U' ++ V' ++ Y' := by simp
          rw [eq] at this
          rw [this] at q1
          refine ⟨i - j, j, X' ++ V', U'.drop j, U'.take j, Y', by go_num, rfl, by omega, by omega, q1, ⟨?_, by simp; omega, ed, el, ?_⟩, HC.out.trans q2⟩
          · rw [HT.out]; simp
          · simp; omega
        case measure => simp [intOf]; omega
      · have hij1 : decide ((j : Int) < (i : Int)) = false := by simp; omega
        go_wp2_with (go_at_call 170; refine (hsw (m - i) (m + j - i) i (by omega) (by omega)).mono ?_; rintro e w2 ⟨rfl, q1, q2⟩)
        go_roundw
        case rel =>
          have ed : (V'.drop (j - i)).length = i := by simp; omega
          have el : (V'.take (j - i)).length = j - i := by simp; omega
          have := swr_pieces (X := X') (S := U') (Y := V'.take (j - i)) (T := V'.drop (j - i)) (Z := Y') (by omega)
          rw [el, e3, show X'.length = m - i by omega, show m - i + i + (j - i) = m + j - i by omega] at this
          have eq : X' ++ U' ++ V'.take (j - i) ++ V'.drop (j - i) ++ Y' = X' ++ U' ++ V' ++ Y' := by simp
          rw [eq] at this
          rw [this] at q1
          refine ⟨i, j - i, X', V'.drop (j - i), V'.take (j - i), U' ++ Y', rfl, by go_num, by omega, by omega, ?_, ⟨?_, by omega, ed, el, ?_⟩, HC.out.trans q2⟩
          · simpa using q1
          · rw [HT.out]; simp
          · simp; omega
        case measure => simp [intOf]; omega
end Go.Proofs.Ytklmckbpbloonaa

namespace Go.Proofs.Ytklmckbpbloonaa
open Go.RowKit

theorem compareU (x y : Int) (w : World) : Calls Try.prog 78 #[.int .u32 x, .int .u32 y] w fun e w' => e = .returned (.int .i64 (cmpN x y)) ∧ w' = w := by
  by_cases h1 : x < y
  · go_enter Try.func78, Try.ntmps78
    go_wp2_with (go_at_call 107; refine (SU.cmp_isNaN_int _ _).mono ?_; rintro e w' ⟨rfl, rfl⟩)
    go_ret
    exact ⟨ret_int (by unfold cmpN; rw [if_pos h1]), rfl⟩
  · have h1' : decide (x < y) = false := by simpa using h1
    by_cases h2 : y < x
    · go_enter Try.func78, Try.ntmps78
      go_wp2_with (go_at_call 107; refine (SU.cmp_isNaN_int _ _).mono ?_; rintro e w' ⟨rfl, rfl⟩)
      go_ret
      exact ⟨ret_int (by unfold cmpN; rw [if_neg (by omega), if_pos h2]), rfl⟩
    · have h2' : decide (y < x) = false := by simpa using h2
      go_enter Try.func78, Try.ntmps78
      go_wp2_with (go_at_call 107; refine (SU.cmp_isNaN_int _ _).mono ?_; rintro e w' ⟨rfl, rfl⟩)
      go_ret
      exact ⟨ret_int (by unfold cmpN; rw [if_neg (by omega), if_neg (by omega)]), rfl⟩
theorem byId (x y : Edg) (w : World) : Calls Try.prog 82 #[edV x, edV y] w fun e w' => e = .returned (.int .i64 (cmpN x.1 y.1)) ∧ Below w.heap.size w w' := by
  have HB := Lib.hid (((Below.refl w.heap.size w).alloc (Nat.le_refl _) (.cells (edC x).toArray 39)).alloc (by simp) (.cells (edC y).toArray 39))
  unfold edV edC
  go_enter Try.func82, Try.ntmps82
  go_wp2_with (go_at_call 78; refine (compareU _ _ _).mono ?_; rintro e w' ⟨rfl, rfl⟩)
  go_ret
  exact ⟨rfl, HB.out⟩
set_option maxRecDepth 100000 in
set_option maxHeartbeats 2000000 in
theorem insertion_any (g c a b : Nat) (es : List Edg) (w : World) (h : RowE w g c es) (hab : a ≤ b) (hb : b ≤ es.length) (hsz : es.length ≤ 1000000) :
    Calls Try.prog 140 #[.slice (some ⟨g, 0, none⟩) es.length c, .int .i64 a, .int .i64 b, .func (.func 82) #[] #[]] w fun e w' => e = .returned (.tuple #[]) ∧ ∃ es', RowE w' g c es' ∧ Like a b es es' ∧ Srt es' a b ∧ Chg [g] w w' := by
  obtain ⟨hc1, hc2⟩ := h.cap
  have HW := Lib.hid h
  have hn : es.length = es.length := rfl
  generalize hnn : es.length = nn at *
  clear h hn
  have p1 : IntKind.i64.wrap ((a : Int) + 1) = ((a + 1 : Nat) : Int) := by rw [IntWalk.i64_in _ (by omega)]; omega
  go_enter Try.func140, Try.ntmps140
  go_wp2_with fail
  go_loopw [8, 9] (fun s8 _ wr => ∃ (i : Nat) (cur : List Edg), s8 = .int .i64 i ∧ a + 1 ≤ i ∧ i ≤ b + 1 ∧ RowE wr g c cur ∧ Hid (Like a b es cur ∧ Srt cur a i) ∧ Chg [g] w wr) (fun s8 _ _ => b + 1 - (intOf s8).toNat)
  case atStart => exact ⟨a + 1, es, by go_num, by omega, by omega, HW.out, ⟨Like.refl _ _ _, Srt.one _ _⟩, Chg.refl _ _⟩
  case round =>
    clear HW
    obtain ⟨i, cur, rfl, hi1, hi2, hr, hL, hC⟩ := hrel
    have HR := Lib.hid hr
    have HC := Lib.hid hC
    clear hr hC
    by_cases hlt : i < b
    · have p2 : IntKind.i64.wrap ((i : Int) + 1) = ((i + 1 : Nat) : Int) := by rw [IntWalk.i64_in _ (by omega)]; omega
      obtain ⟨w0, rfl⟩ : ∃ w0, w0 = wr := ⟨_, rfl⟩
      go_wp2_with fail
      go_loopw [9] (fun s9 wr => ∃ (j : Nat) (cur : List Edg), s9 = .int .i64 j ∧ a ≤ j ∧ j ≤ i ∧ RowE wr g c cur ∧ Hid (Like a b es cur ∧ SrtX cur a (i + 1) j) ∧ Chg [g] w wr) (fun s9 _ => (intOf s9).toNat)
      case atStart => exact ⟨i, cur, rfl, by omega, Nat.le_refl _, HR.out, ⟨hL.out.1, hL.out.2.x⟩, HC.out⟩
      case round =>
        clear HR HC hL
        obtain ⟨j, cur, rfl, hj1, hj2, hr, hL, hC⟩ := hrel
        have HR := Lib.hid hr
        have HC := Lib.hid hC
        have hcl := hL.out.1.len
        rw [hnn] at hcl
        clear hr hC
        by_cases hja : a < j
        · obtain ⟨jm, hjm⟩ : ∃ jm, j = jm + 1 := ⟨j - 1, by omega⟩
          have hjl : j < cur.length := by omega
          have hjml : jm < cur.length := by omega
          have hx : cur[j]? = some cur[j] := List.getElem?_eq_getElem hjl
          have hy : cur[jm]? = some cur[jm] := List.getElem?_eq_getElem hjml
          generalize cur[j] = x at hx
          generalize cur[jm] = y at hy
          have hox := HR.out.okAt hx
          have hoy := HR.out.okAt hy
          have HKX := Lib.hid (K_at hx)
          have HKY := Lib.hid (K_at hy)
          have q1 : IntKind.i64.wrap ((j : Int) - 1) = (jm : Int) := by rw [IntWalk.i64_in _ (by omega)]; omega
          have q2 : j < nn := by omega
          have q3 : jm < nn := by omega
          have HJ := Lib.hid hjm
          have HCL := Lib.hid hcl
          have hsw := swp_eq hx hy
          clear hjm hcl
          by_cases hk : x.1 < y.1
          · have hdec : decide (cmpN x.1 y.1 < 0) = true := by rw [cmpN_lt]; simp [hk]
            have hdec2 : cmpN x.1 y.1 < 0 := by simpa using hdec
            go_wp2_with fail
            refine wp_region_held_drew (S := fun W => RowE W g c cur) (by kernel_rfl) HR.out.drew' (fun hHeld => ?_)
            refine held_take 0 18 (.int .i64 j) (by simp only [List.getElem?_toArray, List.getElem?_cons_zero]; rfl) rfl rfl (by kernel_rfl) (by kernel_rfl) (by kernel_rfl) (fun _ _ _ _ h => h) (by intro W hW; go_simp) hHeld ?_
            simp only [List.setIfInBounds_toArray, List.set_cons_zero, List.set_cons_succ]
            refine held_take 1 19 (.int .i64 a) (by simp only [List.getElem?_toArray, List.getElem?_cons_succ, List.getElem?_cons_zero]; rfl) rfl rfl (by kernel_rfl) (by kernel_rfl) (by kernel_rfl) (fun _ _ _ _ h => h) (by intro W hW; go_simp) hHeld ?_
            simp only [List.setIfInBounds_toArray, List.set_cons_zero, List.set_cons_succ]
            refine held_take 2 20 (.bool true) (by simp only [List.getElem?_toArray, List.getElem?_cons_succ, List.getElem?_cons_zero]; rfl) rfl rfl (by kernel_rfl) (by kernel_rfl) (by kernel_rfl) (fun _ _ _ _ h => h) (by intro W hW; go_simp) hHeld ?_
            simp only [List.setIfInBounds_toArray, List.set_cons_zero, List.set_cons_succ]
            refine held_take 3 21 (.bool true) (by simp only [List.getElem?_toArray, List.getElem?_cons_succ, List.getElem?_cons_zero]; rfl) rfl rfl (by kernel_rfl) (by kernel_rfl) (by kernel_rfl) (fun _ _ _ _ h => h) (by intro W hW; go_simp) hHeld ?_
            simp only [List.setIfInBounds_toArray, List.set_cons_zero, List.set_cons_succ]
            refine held_take 4 22 (.func (.func 82) #[] #[]) (by simp only [List.getElem?_toArray, List.getElem?_cons_succ, List.getElem?_cons_zero]; rfl) rfl rfl (by kernel_rfl) (by kernel_rfl) (by kernel_rfl) (fun _ _ _ _ h => h) (by intro W hW; go_simp) hHeld ?_
            simp only [List.setIfInBounds_toArray, List.set_cons_zero, List.set_cons_succ]
            refine held_take 5 23 (.slice (some ⟨g, 0, none⟩) nn c) (by simp only [List.getElem?_toArray, List.getElem?_cons_succ, List.getElem?_cons_zero]; rfl) rfl rfl (by kernel_rfl) (by kernel_rfl) (by kernel_rfl) (fun _ _ _ _ h => h) (by intro W hW; go_simp) hHeld ?_
            simp only [List.setIfInBounds_toArray, List.set_cons_zero, List.set_cons_succ]
            refine held_take 6 24 (.int .i64 j) (by simp only [List.getElem?_toArray, List.getElem?_cons_succ, List.getElem?_cons_zero]; rfl) rfl rfl (by kernel_rfl) (by kernel_rfl) (by kernel_rfl) (fun _ _ _ _ h => h) (by intro W hW; go_simp) hHeld ?_
            simp only [List.setIfInBounds_toArray, List.set_cons_zero, List.set_cons_succ]
            refine held_take 7 25 (.pointer (some ⟨g, (j * 3), none⟩)) (by simp only [List.getElem?_toArray, List.getElem?_cons_succ, List.getElem?_cons_zero]; rfl) rfl rfl (by kernel_rfl) (by kernel_rfl) (by kernel_rfl) (fun _ _ _ _ h => h) (by intro W hW; go_simp) hHeld ?_
            simp only [List.setIfInBounds_toArray, List.set_cons_zero, List.set_cons_succ]
            refine held_take 8 26 (edV x) (by simp only [List.getElem?_toArray, List.getElem?_cons_succ, List.getElem?_cons_zero]; rfl) rfl rfl (by kernel_rfl) (by kernel_rfl) (by kernel_rfl) (fun _ _ _ _ h => h) (fun W hW => exec_loadE rfl rfl hW hx) hHeld ?_
            simp only [List.setIfInBounds_toArray, List.set_cons_zero, List.set_cons_succ]
            refine held_take 9 27 (.slice (some ⟨g, 0, none⟩) nn c) (by simp only [List.getElem?_toArray, List.getElem?_cons_succ, List.getElem?_cons_zero]; rfl) rfl rfl (by kernel_rfl) (by kernel_rfl) (by kernel_rfl) (fun _ _ _ _ h => h) (by intro W hW; go_simp) hHeld ?_
            simp only [List.setIfInBounds_toArray, List.set_cons_zero, List.set_cons_succ]
            refine held_take 10 28 (.int .i64 j) (by simp only [List.getElem?_toArray, List.getElem?_cons_succ, List.getElem?_cons_zero]; rfl) rfl rfl (by kernel_rfl) (by kernel_rfl) (by kernel_rfl) (fun _ _ _ _ h => h) (by intro W hW; go_simp) hHeld ?_
            simp only [List.setIfInBounds_toArray, List.set_cons_zero, List.set_cons_succ]
            refine held_take 11 29 (.int .i64 jm) (by simp only [List.getElem?_toArray, List.getElem?_cons_succ, List.getElem?_cons_zero]; rfl) rfl rfl (by kernel_rfl) (by kernel_rfl) (by kernel_rfl) (fun _ _ _ _ h => h) (by intro W hW; go_simp) hHeld ?_
            simp only [List.setIfInBounds_toArray, List.set_cons_zero, List.set_cons_succ]
            refine held_take 12 30 (.pointer (some ⟨g, (jm * 3), none⟩)) (by simp only [List.getElem?_toArray, List.getElem?_cons_succ, List.getElem?_cons_zero]; rfl) rfl rfl (by kernel_rfl) (by kernel_rfl) (by kernel_rfl) (fun _ _ _ _ h => h) (by intro W hW; go_simp) hHeld ?_
            simp only [List.setIfInBounds_toArray, List.set_cons_zero, List.set_cons_succ]
            refine held_take 13 31 (edV y) (by simp only [List.getElem?_toArray, List.getElem?_cons_succ, List.getElem?_cons_zero]; rfl) rfl rfl (by kernel_rfl) (by kernel_rfl) (by kernel_rfl) (fun _ _ _ _ h => h) (fun W hW => exec_loadE rfl rfl hW hy) hHeld ?_
            simp only [List.setIfInBounds_toArray, List.set_cons_zero, List.set_cons_succ]
            refine held_call 14 32 82 #[edV x, edV y] (by simp only [List.getElem?_toArray, List.getElem?_cons_succ, List.getElem?_cons_zero]; rfl) rfl rfl (by kernel_rfl) (by intro W; go_simp) ?_
            refine (byId x y _).mono ?_
            rintro e w3 ⟨rfl, B3⟩
            have hHeld := hHeld.on B3
            have C3 : Chg [g] wr w3 := (Chg.refl [g] wr).drew.trans (Chg.of_below B3 [g])
            refine ⟨_, rfl, hHeld, ?_⟩
            simp only [List.setIfInBounds_toArray, List.set_cons_zero, List.set_cons_succ]
            refine held_take 15 33 (.bool true) (by simp only [List.getElem?_toArray, List.getElem?_cons_succ, List.getElem?_cons_zero]; rfl) rfl rfl (by kernel_rfl) (by kernel_rfl) (by kernel_rfl) (fun _ _ _ _ h => h) (by intro W hW; go_simp) hHeld ?_
            simp only [List.setIfInBounds_toArray, List.set_cons_zero, List.set_cons_succ]
            refine held_take 16 34 (.bool true) (by simp only [List.getElem?_toArray, List.getElem?_cons_succ, List.getElem?_cons_zero]; rfl) rfl rfl (by kernel_rfl) (by kernel_rfl) (by kernel_rfl) (fun _ _ _ _ h => h) (by intro W hW; go_simp) hHeld ?_
            simp only [List.setIfInBounds_toArray, List.set_cons_zero, List.set_cons_succ]
            refine wpAnyH_done (by kernel_rfl) ?_ _
            go_wp2_with fail
            obtain ⟨wr2, rfl⟩ : ∃ x, x = w3 := ⟨_, rfl⟩
            have HR0 := HR
            have HR := Lib.hid hHeld
            refine wp_region_held_drew (S := fun _ => True) (by kernel_rfl) trivial (fun hHeld => ?_)
            refine held_take 0 37 (.slice (some ⟨g, 0, none⟩) nn c) (by simp only [List.getElem?_toArray, List.getElem?_cons_zero]; rfl) rfl rfl (by kernel_rfl) (by kernel_rfl) (by kernel_rfl) (fun _ _ _ _ h => h) (by intro W hW; go_simp) hHeld ?_
            simp only [List.setIfInBounds_toArray, List.set_cons_zero, List.set_cons_succ]
            refine held_take 1 38 (.int .i64 j) (by simp only [List.getElem?_toArray, List.getElem?_cons_succ, List.getElem?_cons_zero]; rfl) rfl rfl (by kernel_rfl) (by kernel_rfl) (by kernel_rfl) (fun _ _ _ _ h => h) (by intro W hW; go_simp) hHeld ?_
            simp only [List.setIfInBounds_toArray, List.set_cons_zero, List.set_cons_succ]
            refine held_take 2 39 (.slice (some ⟨g, 0, none⟩) nn c) (by simp only [List.getElem?_toArray, List.getElem?_cons_succ, List.getElem?_cons_zero]; rfl) rfl rfl (by kernel_rfl) (by kernel_rfl) (by kernel_rfl) (fun _ _ _ _ h => h) (by intro W hW; go_simp) hHeld ?_
            simp only [List.setIfInBounds_toArray, List.set_cons_zero, List.set_cons_succ]
            refine held_take 3 40 (.int .i64 j) (by simp only [List.getElem?_toArray, List.getElem?_cons_succ, List.getElem?_cons_zero]; rfl) rfl rfl (by kernel_rfl) (by kernel_rfl) (by kernel_rfl) (fun _ _ _ _ h => h) (by intro W hW; go_simp) hHeld ?_
            simp only [List.setIfInBounds_toArray, List.set_cons_zero, List.set_cons_succ]
            refine held_take 4 41 (.int .i64 jm) (by simp only [List.getElem?_toArray, List.getElem?_cons_succ, List.getElem?_cons_zero]; rfl) rfl rfl (by kernel_rfl) (by kernel_rfl) (by kernel_rfl) (fun _ _ _ _ h => h) (by intro W hW; go_simp) hHeld ?_
            simp only [List.setIfInBounds_toArray, List.set_cons_zero, List.set_cons_succ]
            refine held_take 5 42 (.slice (some ⟨g, 0, none⟩) nn c) (by simp only [List.getElem?_toArray, List.getElem?_cons_succ, List.getElem?_cons_zero]; rfl) rfl rfl (by kernel_rfl) (by kernel_rfl) (by kernel_rfl) (fun _ _ _ _ h => h) (by intro W hW; go_simp) hHeld ?_
            simp only [List.setIfInBounds_toArray, List.set_cons_zero, List.set_cons_succ]
            refine held_take 6 43 (.int .i64 j) (by simp only [List.getElem?_toArray, List.getElem?_cons_succ, List.getElem?_cons_zero]; rfl) rfl rfl (by kernel_rfl) (by kernel_rfl) (by kernel_rfl) (fun _ _ _ _ h => h) (by intro W hW; go_simp) hHeld ?_
            simp only [List.setIfInBounds_toArray, List.set_cons_zero, List.set_cons_succ]
            refine held_take 7 44 (.int .i64 jm) (by simp only [List.getElem?_toArray, List.getElem?_cons_succ, List.getElem?_cons_zero]; rfl) rfl rfl (by kernel_rfl) (by kernel_rfl) (by kernel_rfl) (fun _ _ _ _ h => h) (by intro W hW; go_simp) hHeld ?_
            simp only [List.setIfInBounds_toArray, List.set_cons_zero, List.set_cons_succ]
            refine held_take 8 45 (.pointer (some ⟨g, (jm * 3), none⟩)) (by simp only [List.getElem?_toArray, List.getElem?_cons_succ, List.getElem?_cons_zero]; rfl) rfl rfl (by kernel_rfl) (by kernel_rfl) (by kernel_rfl) (fun _ _ _ _ h => h) (by intro W hW; go_simp) hHeld ?_
            simp only [List.setIfInBounds_toArray, List.set_cons_zero, List.set_cons_succ]
            refine held_take 10 47 (.slice (some ⟨g, 0, none⟩) nn c) (by simp only [List.getElem?_toArray, List.getElem?_cons_succ, List.getElem?_cons_zero]; rfl) rfl rfl (by kernel_rfl) (by kernel_rfl) (by kernel_rfl) (fun _ _ _ _ h => h) (by intro W hW; go_simp) hHeld ?_
            simp only [List.setIfInBounds_toArray, List.set_cons_zero, List.set_cons_succ]
            refine held_take 11 48 (.int .i64 j) (by simp only [List.getElem?_toArray, List.getElem?_cons_succ, List.getElem?_cons_zero]; rfl) rfl rfl (by kernel_rfl) (by kernel_rfl) (by kernel_rfl) (fun _ _ _ _ h => h) (by intro W hW; go_simp) hHeld ?_
            simp only [List.setIfInBounds_toArray, List.set_cons_zero, List.set_cons_succ]
            refine held_take 12 49 (.pointer (some ⟨g, (j * 3), none⟩)) (by simp only [List.getElem?_toArray, List.getElem?_cons_succ, List.getElem?_cons_zero]; rfl) rfl rfl (by kernel_rfl) (by kernel_rfl) (by kernel_rfl) (fun _ _ _ _ h => h) (by intro W hW; go_simp) hHeld ?_
            simp only [List.setIfInBounds_toArray, List.set_cons_zero, List.set_cons_succ]
            refine held_two 9 13 46 50 (edV y) (edV x) (by simp only [List.getElem?_toArray, List.getElem?_cons_succ, List.getElem?_cons_zero]; rfl) (by simp only [List.getElem?_toArray, List.getElem?_cons_succ, List.getElem?_cons_zero]; rfl) rfl rfl (by decide) (by decide) rfl rfl rfl rfl (by kernel_rfl) (by kernel_rfl) (by kernel_rfl) (exec_loadE rfl rfl HR.out.drew' hy) (exec_loadE rfl rfl HR.out.drew' hx) (exec_loadE rfl rfl HR.out.drew' hy) (exec_loadE rfl rfl HR.out.drew' hx) trivial ?_
            simp only [List.setIfInBounds_toArray, List.set_cons_zero, List.set_cons_succ]
            refine held_take 14 51 (.pointer (some ⟨g, (j * 3), none⟩)) (by simp only [List.getElem?_toArray, List.getElem?_cons_succ, List.getElem?_cons_zero]; rfl) rfl rfl (by kernel_rfl) (by kernel_rfl) (by kernel_rfl) (fun _ _ _ _ h => h) (by intro W hW; go_simp) hHeld ?_
            simp only [List.setIfInBounds_toArray, List.set_cons_zero, List.set_cons_succ]
            refine held_storeE 15 (by simp only [List.getElem?_toArray, List.getElem?_cons_succ, List.getElem?_cons_zero]; rfl) rfl rfl (by kernel_rfl) (.tmp 51) (.tmp 46) rfl g c (j) _ y rfl rfl HR.out.drew' hjl hoy ?_
            intro w1 r1 C1 z1
            refine ⟨trivial, ?_⟩
            refine held_take 16 52 (.pointer (some ⟨g, (jm * 3), none⟩)) (by simp only [List.getElem?_toArray, List.getElem?_cons_succ, List.getElem?_cons_zero]; rfl) rfl rfl (by kernel_rfl) (by kernel_rfl) (by kernel_rfl) (fun _ _ _ _ h => h) (by intro W hW; go_simp) hHeld ?_
            simp only [List.setIfInBounds_toArray, List.set_cons_zero, List.set_cons_succ]
            refine held_storeE 17 (by simp only [List.getElem?_toArray, List.getElem?_cons_succ, List.getElem?_cons_zero]; rfl) rfl rfl (by kernel_rfl) (.tmp 52) (.tmp 50) rfl g c (jm) _ x rfl rfl r1 (by rw [List.length_set]; exact hjml) hox ?_
            intro w2 r2 C2 z2
            refine ⟨trivial, ?_⟩
            refine wpAnyH_done (by kernel_rfl) ?_ _
            go_wp2
            go_roundw
            case rel =>
              have hj0 := HJ.out
              have hcl0 := HCL.out
              refine ⟨jm, swp cur j jm, by go_num, by have := HJ.out; omega, by have := HJ.out; omega, ?_, ⟨?_, ?_⟩, ((HC.out.trans C3).drew.trans C1).trans C2⟩
              · rw [hsw]; exact r2
              · exact hL.out.1.swp (by omega) (by have := HJ.out; omega) (by omega) (by omega) (by omega)
              · have e : jm = j - 1 := by have := HJ.out; omega
                rw [e]
                refine hL.out.2.swp hja (by omega) (by omega) ?_
                rw [← e, HKX.out, HKY.out]; exact hk
            case measure => have := HJ.out; simp [intOf]; omega
          · have hdec : decide (cmpN x.1 y.1 < 0) = false := by rw [cmpN_lt]; simpa using hk
            have hdec2 : ¬ cmpN x.1 y.1 < 0 := by simpa using hdec
            go_wp2_with fail
            refine wp_region_held_drew (S := fun W => RowE W g c cur) (by kernel_rfl) HR.out.drew' (fun hHeld => ?_)
            refine held_take 0 18 (.int .i64 j) (by simp only [List.getElem?_toArray, List.getElem?_cons_zero]; rfl) rfl rfl (by kernel_rfl) (by kernel_rfl) (by kernel_rfl) (fun _ _ _ _ h => h) (by intro W hW; go_simp) hHeld ?_
            simp only [List.setIfInBounds_toArray, List.set_cons_zero, List.set_cons_succ]
            refine held_take 1 19 (.int .i64 a) (by simp only [List.getElem?_toArray, List.getElem?_cons_succ, List.getElem?_cons_zero]; rfl) rfl rfl (by kernel_rfl) (by kernel_rfl) (by kernel_rfl) (fun _ _ _ _ h => h) (by intro W hW; go_simp) hHeld ?_
            simp only [List.setIfInBounds_toArray, List.set_cons_zero, List.set_cons_succ]
            refine held_take 2 20 (.bool true) (by simp only [List.getElem?_toArray, List.getElem?_cons_succ, List.getElem?_cons_zero]; rfl) rfl rfl (by kernel_rfl) (by kernel_rfl) (by kernel_rfl) (fun _ _ _ _ h => h) (by intro W hW; go_simp) hHeld ?_
            simp only [List.setIfInBounds_toArray, List.set_cons_zero, List.set_cons_succ]
            refine held_take 3 21 (.bool true) (by simp only [List.getElem?_toArray, List.getElem?_cons_succ, List.getElem?_cons_zero]; rfl) rfl rfl (by kernel_rfl) (by kernel_rfl) (by kernel_rfl) (fun _ _ _ _ h => h) (by intro W hW; go_simp) hHeld ?_
            simp only [List.setIfInBounds_toArray, List.set_cons_zero, List.set_cons_succ]
            refine held_take 4 22 (.func (.func 82) #[] #[]) (by simp only [List.getElem?_toArray, List.getElem?_cons_succ, List.getElem?_cons_zero]; rfl) rfl rfl (by kernel_rfl) (by kernel_rfl) (by kernel_rfl) (fun _ _ _ _ h => h) (by intro W hW; go_simp) hHeld ?_
            simp only [List.setIfInBounds_toArray, List.set_cons_zero, List.set_cons_succ]
            refine held_take 5 23 (.slice (some ⟨g, 0, none⟩) nn c) (by simp only [List.getElem?_toArray, List.getElem?_cons_succ, List.getElem?_cons_zero]; rfl) rfl rfl (by kernel_rfl) (by kernel_rfl) (by kernel_rfl) (fun _ _ _ _ h => h) (by intro W hW; go_simp) hHeld ?_
            simp only [List.setIfInBounds_toArray, List.set_cons_zero, List.set_cons_succ]
            refine held_take 6 24 (.int .i64 j) (by simp only [List.getElem?_toArray, List.getElem?_cons_succ, List.getElem?_cons_zero]; rfl) rfl rfl (by kernel_rfl) (by kernel_rfl) (by kernel_rfl) (fun _ _ _ _ h => h) (by intro W hW; go_simp) hHeld ?_
            simp only [List.setIfInBounds_toArray, List.set_cons_zero, List.set_cons_succ]
            refine held_take 7 25 (.pointer (some ⟨g, (j * 3), none⟩)) (by simp only [List.getElem?_toArray, List.getElem?_cons_succ, List.getElem?_cons_zero]; rfl) rfl rfl (by kernel_rfl) (by kernel_rfl) (by kernel_rfl) (fun _ _ _ _ h => h) (by intro W hW; go_simp) hHeld ?_
            simp only [List.setIfInBounds_toArray, List.set_cons_zero, List.set_cons_succ]
            refine held_take 8 26 (edV x) (by simp only [List.getElem?_toArray, List.getElem?_cons_succ, List.getElem?_cons_zero]; rfl) rfl rfl (by kernel_rfl) (by kernel_rfl) (by kernel_rfl) (fun _ _ _ _ h => h) (fun W hW => exec_loadE rfl rfl hW hx) hHeld ?_
            simp only [List.setIfInBounds_toArray, List.set_cons_zero, List.set_cons_succ]
            refine held_take 9 27 (.slice (some ⟨g, 0, none⟩) nn c) (by simp only [List.getElem?_toArray, List.getElem?_cons_succ, List.getElem?_cons_zero]; rfl) rfl rfl (by kernel_rfl) (by kernel_rfl) (by kernel_rfl) (fun _ _ _ _ h => h) (by intro W hW; go_simp) hHeld ?_
            simp only [List.setIfInBounds_toArray, List.set_cons_zero, List.set_cons_succ]
            refine held_take 10 28 (.int .i64 j) (by simp only [List.getElem?_toArray, List.getElem?_cons_succ, List.getElem?_cons_zero]; rfl) rfl rfl (by kernel_rfl) (by kernel_rfl) (by kernel_rfl) (fun _ _ _ _ h => h) (by intro W hW; go_simp) hHeld ?_
            simp only [List.setIfInBounds_toArray, List.set_cons_zero, List.set_cons_succ]
            refine held_take 11 29 (.int .i64 jm) (by simp only [List.getElem?_toArray, List.getElem?_cons_succ, List.getElem?_cons_zero]; rfl) rfl rfl (by kernel_rfl) (by kernel_rfl) (by kernel_rfl) (fun _ _ _ _ h => h) (by intro W hW; go_simp) hHeld ?_
            simp only [List.setIfInBounds_toArray, List.set_cons_zero, List.set_cons_succ]
            refine held_take 12 30 (.pointer (some ⟨g, (jm * 3), none⟩)) (by simp only [List.getElem?_toArray, List.getElem?_cons_succ, List.getElem?_cons_zero]; rfl) rfl rfl (by kernel_rfl) (by kernel_rfl) (by kernel_rfl) (fun _ _ _ _ h => h) (by intro W hW; go_simp) hHeld ?_
            simp only [List.setIfInBounds_toArray, List.set_cons_zero, List.set_cons_succ]
            refine held_take 13 31 (edV y) (by simp only [List.getElem?_toArray, List.getElem?_cons_succ, List.getElem?_cons_zero]; rfl) rfl rfl (by kernel_rfl) (by kernel_rfl) (by kernel_rfl) (fun _ _ _ _ h => h) (fun W hW => exec_loadE rfl rfl hW hy) hHeld ?_
            simp only [List.setIfInBounds_toArray, List.set_cons_zero, List.set_cons_succ]
            refine held_call 14 32 82 #[edV x, edV y] (by simp only [List.getElem?_toArray, List.getElem?_cons_succ, List.getElem?_cons_zero]; rfl) rfl rfl (by kernel_rfl) (by intro W; go_simp) ?_
            refine (byId x y _).mono ?_
            rintro e w3 ⟨rfl, B3⟩
            have hHeld := hHeld.on B3
            have C3 : Chg [g] wr w3 := (Chg.refl [g] wr).drew.trans (Chg.of_below B3 [g])
            refine ⟨_, rfl, hHeld, ?_⟩
            simp only [List.setIfInBounds_toArray, List.set_cons_zero, List.set_cons_succ]
            refine held_take 15 33 (.bool false) (by simp only [List.getElem?_toArray, List.getElem?_cons_succ, List.getElem?_cons_zero]; rfl) rfl rfl (by kernel_rfl) (by kernel_rfl) (by kernel_rfl) (fun _ _ _ _ h => h) (by intro W hW; go_simp) hHeld ?_
            simp only [List.setIfInBounds_toArray, List.set_cons_zero, List.set_cons_succ]
            refine held_take 16 34 (.bool false) (by simp only [List.getElem?_toArray, List.getElem?_cons_succ, List.getElem?_cons_zero]; rfl) rfl rfl (by kernel_rfl) (by kernel_rfl) (by kernel_rfl) (fun _ _ _ _ h => h) (by intro W hW; go_simp) hHeld ?_
            simp only [List.setIfInBounds_toArray, List.set_cons_zero, List.set_cons_succ]
            refine wpAnyH_done (by kernel_rfl) ?_ _
            go_wp2_with fail
            go_roundw
            case rel =>
              refine ⟨i + 1, cur, by go_num, by omega, by omega, hHeld, ⟨hL.out.1, hL.out.2.done (.inr ?_)⟩, HC.out.trans C3⟩
              have e : j - 1 = jm := by have := HJ.out; omega
              rw [e, HKX.out, HKY.out]; omega
            case measure => simp [intOf]; omega
        · obtain rfl : j = a := by omega
          have hdd : decide ((j : Int) < (j : Int)) = false := by simp
          go_wp2_with fail
          refine wp_region_held_drew (S := fun W => RowE W g c cur) (by kernel_rfl) HR.out.drew' (fun hHeld => ?_)
          refine held_take 0 18 (.int .i64 j) (by simp only [List.getElem?_toArray, List.getElem?_cons_zero]; rfl) rfl rfl (by kernel_rfl) (by kernel_rfl) (by kernel_rfl) (fun _ _ _ _ h => h) (by intro W hW; go_simp) hHeld ?_
          simp only [List.setIfInBounds_toArray, List.set_cons_zero, List.set_cons_succ]
          refine held_take 1 19 (.int .i64 j) (by simp only [List.getElem?_toArray, List.getElem?_cons_succ, List.getElem?_cons_zero]; rfl) rfl rfl (by kernel_rfl) (by kernel_rfl) (by kernel_rfl) (fun _ _ _ _ h => h) (by intro W hW; go_simp) hHeld ?_
          simp only [List.setIfInBounds_toArray, List.set_cons_zero, List.set_cons_succ]
          refine held_take 2 20 (.bool false) (by simp only [List.getElem?_toArray, List.getElem?_cons_succ, List.getElem?_cons_zero]; rfl) rfl rfl (by kernel_rfl) (by kernel_rfl) (by kernel_rfl) (fun _ _ _ _ h => h) (by intro W hW; go_simp) hHeld ?_
          simp only [List.setIfInBounds_toArray, List.set_cons_zero, List.set_cons_succ]
          refine held_take 3 21 (.bool false) (by simp only [List.getElem?_toArray, List.getElem?_cons_succ, List.getElem?_cons_zero]; rfl) rfl rfl (by kernel_rfl) (by kernel_rfl) (by kernel_rfl) (fun _ _ _ _ h => h) (by intro W hW; go_simp) hHeld ?_
          simp only [List.setIfInBounds_toArray, List.set_cons_zero, List.set_cons_succ]
          refine held_skip 4 22 (by simp only [List.getElem?_toArray, List.getElem?_cons_succ, List.getElem?_cons_zero]; rfl) rfl rfl (by kernel_rfl) (by kernel_rfl) (by kernel_rfl) (fun _ _ _ _ h => h) hHeld ?_
          simp only [List.setIfInBounds_toArray, List.set_cons_zero, List.set_cons_succ]
          refine held_skip 5 23 (by simp only [List.getElem?_toArray, List.getElem?_cons_succ, List.getElem?_cons_zero]; rfl) rfl rfl (by kernel_rfl) (by kernel_rfl) (by kernel_rfl) (fun _ _ _ _ h => h) hHeld ?_
          simp only [List.setIfInBounds_toArray, List.set_cons_zero, List.set_cons_succ]
          refine held_skip 6 24 (by simp only [List.getElem?_toArray, List.getElem?_cons_succ, List.getElem?_cons_zero]; rfl) rfl rfl (by kernel_rfl) (by kernel_rfl) (by kernel_rfl) (fun _ _ _ _ h => h) hHeld ?_
          simp only [List.setIfInBounds_toArray, List.set_cons_zero, List.set_cons_succ]
          refine held_skip 7 25 (by simp only [List.getElem?_toArray, List.getElem?_cons_succ, List.getElem?_cons_zero]; rfl) rfl rfl (by kernel_rfl) (by kernel_rfl) (by kernel_rfl) (fun _ _ _ _ h => h) hHeld ?_
          simp only [List.setIfInBounds_toArray, List.set_cons_zero, List.set_cons_succ]
          refine held_skip 8 26 (by simp only [List.getElem?_toArray, List.getElem?_cons_succ, List.getElem?_cons_zero]; rfl) rfl rfl (by kernel_rfl) (by kernel_rfl) (by kernel_rfl) (fun _ _ _ _ h => h) hHeld ?_
          simp only [List.setIfInBounds_toArray, List.set_cons_zero, List.set_cons_succ]
          refine held_skip 9 27 (by simp only [List.getElem?_toArray, List.getElem?_cons_succ, List.getElem?_cons_zero]; rfl) rfl rfl (by kernel_rfl) (by kernel_rfl) (by kernel_rfl) (fun _ _ _ _ h => h) hHeld ?_
          simp only [List.setIfInBounds_toArray, List.set_cons_zero, List.set_cons_succ]
          refine held_skip 10 28 (by simp only [List.getElem?_toArray, List.getElem?_cons_succ, List.getElem?_cons_zero]; rfl) rfl rfl (by kernel_rfl) (by kernel_rfl) (by kernel_rfl) (fun _ _ _ _ h => h) hHeld ?_
          simp only [List.setIfInBounds_toArray, List.set_cons_zero, List.set_cons_succ]
          refine held_skip 11 29 (by simp only [List.getElem?_toArray, List.getElem?_cons_succ, List.getElem?_cons_zero]; rfl) rfl rfl (by kernel_rfl) (by kernel_rfl) (by kernel_rfl) (fun _ _ _ _ h => h) hHeld ?_
          simp only [List.setIfInBounds_toArray, List.set_cons_zero, List.set_cons_succ]
          refine held_skip 12 30 (by simp only [List.getElem?_toArray, List.getElem?_cons_succ, List.getElem?_cons_zero]; rfl) rfl rfl (by kernel_rfl) (by kernel_rfl) (by kernel_rfl) (fun _ _ _ _ h => h) hHeld ?_
          simp only [List.setIfInBounds_toArray, List.set_cons_zero, List.set_cons_succ]
          refine held_skip 13 31 (by simp only [List.getElem?_toArray, List.getElem?_cons_succ, List.getElem?_cons_zero]; rfl) rfl rfl (by kernel_rfl) (by kernel_rfl) (by kernel_rfl) (fun _ _ _ _ h => h) hHeld ?_
          simp only [List.setIfInBounds_toArray, List.set_cons_zero, List.set_cons_succ]
          refine held_skip 14 32 (by simp only [List.getElem?_toArray, List.getElem?_cons_succ, List.getElem?_cons_zero]; rfl) rfl rfl (by kernel_rfl) (by kernel_rfl) (by kernel_rfl) (fun _ _ _ _ h => h) hHeld ?_
          simp only [List.setIfInBounds_toArray, List.set_cons_zero, List.set_cons_succ]
          refine held_skip 15 33 (by simp only [List.getElem?_toArray, List.getElem?_cons_succ, List.getElem?_cons_zero]; rfl) rfl rfl (by kernel_rfl) (by kernel_rfl) (by kernel_rfl) (fun _ _ _ _ h => h) hHeld ?_
          simp only [List.setIfInBounds_toArray, List.set_cons_zero, List.set_cons_succ]
          refine held_take 16 34 (.bool false) (by simp only [List.getElem?_toArray, List.getElem?_cons_succ, List.getElem?_cons_zero]; rfl) rfl rfl (by kernel_rfl) (by kernel_rfl) (by kernel_rfl) (fun _ _ _ _ h => h) (by intro W hW; go_simp) hHeld ?_
          simp only [List.setIfInBounds_toArray, List.set_cons_zero, List.set_cons_succ]
          refine wpAnyH_done (by kernel_rfl) ?_ _
          go_wp2_with fail
          go_roundw
          case rel => exact ⟨i + 1, cur, by go_num, by omega, by omega, HR.out.drew', ⟨hL.out.1, hL.out.2.done (.inl (Nat.le_refl _))⟩, HC.out.drew⟩
          case measure => simp [intOf]; omega
    · have hd : decide ((i : Int) < (b : Int)) = false := by simp; omega
      go_wp2_with fail
      go_end0
      exact ⟨rfl, cur, HR.out, hL.out.1, fun p q h1 h2 h3 => hL.out.2 p q h1 h2 (by omega), HC.out⟩
end Go.Proofs.Ytklmckbpbloonaa

namespace Go.Proofs.Ytklmckbpbloonaa
open Go.RowKit

set_option maxRecDepth 100000 in
set_option maxHeartbeats 2000000 in
theorem symMerge_one (g c a m b : Nat) (es : List Edg) (w : World) (h : RowE w g c es) (ham : m = a + 1) (hmb : m < b) (hb : b ≤ es.length) (hsz : es.length ≤ 1000000) (hR : Srt es m b) :
    Calls Try.prog 141 #[.slice (some ⟨g, 0, none⟩) es.length c, .int .i64 a, .int .i64 m, .int .i64 b, .func (.func 82) #[] #[]] w fun e w' => e = .returned (.tuple #[]) ∧ ∃ es', RowE w' g c es' ∧ Like a b es es' ∧ Srt es' a b ∧ Chg [g] w w' := by
  obtain ⟨hc1, hc2⟩ := h.cap
  have HW := Lib.hid h
  generalize hnn : es.length = nn at *
  have HAM := Lib.hid ham
  have p1 : IntKind.i64.wrap ((m : Int) - (a : Int)) = 1 := by rw [IntWalk.i64_in _ (by omega)]; omega
  have hma : a < m := by omega
  have HNN := Lib.hid hnn
  clear h ham hnn
  go_enter Try.func141, Try.ntmps141
  go_wp2_with fail
  go_loopw [10, 11, 12] (fun s10 s11 _ wr => ∃ (i j : Nat), s10 = .int .i64 i ∧ s11 = .int .i64 j ∧ m ≤ i ∧ i ≤ j ∧ j ≤ b ∧ RowE wr g c es ∧ Hid ((∀ p, m ≤ p → p < i → K es p < K es a) ∧ (∀ p, j ≤ p → p < b → K es a ≤ K es p)) ∧ Chg [g] w wr) (fun s10 s11 _ _ => (intOf s11).toNat - (intOf s10).toNat)
  case atStart => exact ⟨m, b, rfl, rfl, Nat.le_refl _, by omega, Nat.le_refl _, HW.out, ⟨fun p h1 h2 => by omega, fun p h1 h2 => by omega⟩, Chg.refl _ _⟩
  case round =>
    clear HW
    obtain ⟨i, j, rfl, rfl, hi1, hi2, hi3, hr, hL, hC⟩ := hrel
    have HR := Lib.hid hr
    have HC := Lib.hid hC
    clear hr hC
    by_cases hlt : i < j
    · obtain ⟨h, hh⟩ : ∃ h, h = (i + j) / 2 := ⟨_, rfl⟩
      have hhl : h < es.length := by have := HNN.out; omega
      have hal : a < es.length := by have := HNN.out; omega
      have hx : es[h]? = some es[h] := List.getElem?_eq_getElem hhl
      have hy : es[a]? = some es[a] := List.getElem?_eq_getElem hal
      have q0 : ((i : Int) + (j : Int)) / 2 = (h : Int) := by omega
      have HH := Lib.hid hh
      have q4 : IntKind.i64.wrap ((h : Int) + 1) = ((h + 1 : Nat) : Int) := by rw [IntWalk.i64_in _ (by omega)]; omega
      clear hh
      generalize es[h] = x at hx
      generalize es[a] = y at hy
      have HKX := Lib.hid (K_at hx)
      have HKY := Lib.hid (K_at hy)
      have q1 : IntKind.i64.wrap ((i : Int) + (j : Int)) = (i : Int) + (j : Int) := IntWalk.i64_in _ (by omega)
      have q2 : h < nn := by omega
      have q3 : a < nn := by omega
      by_cases hk : x.1 < y.1
      · have hdec2 : cmpN x.1 y.1 < 0 := by have := cmpN_lt x.1 y.1; simpa [hk] using this
        go_wp2_with fail
        refine wp_region_held_drew (S := fun W => RowE W g c es) (by kernel_rfl) HR.out.drew' (fun hHeld => ?_)
        refine held_take 0 40 (.func (.func 82) #[] #[]) (by simp only [List.getElem?_toArray, List.getElem?_cons_zero]; rfl) rfl rfl (by kernel_rfl) (by kernel_rfl) (by kernel_rfl) (fun _ _ _ _ h => h) (by intro W hW; go_simp) hHeld ?_
        simp only [List.setIfInBounds_toArray, List.set_cons_zero, List.set_cons_succ]
        refine held_take 1 41 (.slice (some ⟨g, 0, none⟩) nn c) (by simp only [List.getElem?_toArray, List.getElem?_cons_succ, List.getElem?_cons_zero]; rfl) rfl rfl (by kernel_rfl) (by kernel_rfl) (by kernel_rfl) (fun _ _ _ _ h => h) (by intro W hW; go_simp) hHeld ?_
        simp only [List.setIfInBounds_toArray, List.set_cons_zero, List.set_cons_succ]
        refine held_take 2 42 (.int .i64 h) (by simp only [List.getElem?_toArray, List.getElem?_cons_succ, List.getElem?_cons_zero]; rfl) rfl rfl (by kernel_rfl) (by kernel_rfl) (by kernel_rfl) (fun _ _ _ _ h => h) (by intro W hW; go_simp) hHeld ?_
        simp only [List.setIfInBounds_toArray, List.set_cons_zero, List.set_cons_succ]
        refine held_take 3 43 (.pointer (some ⟨g, (h * 3), none⟩)) (by simp only [List.getElem?_toArray, List.getElem?_cons_succ, List.getElem?_cons_zero]; rfl) rfl rfl (by kernel_rfl) (by kernel_rfl) (by kernel_rfl) (fun _ _ _ _ h => h) (by intro W hW; go_simp) hHeld ?_
        simp only [List.setIfInBounds_toArray, List.set_cons_zero, List.set_cons_succ]
        refine held_take 4 44 (edV x) (by simp only [List.getElem?_toArray, List.getElem?_cons_succ, List.getElem?_cons_zero]; rfl) rfl rfl (by kernel_rfl) (by kernel_rfl) (by kernel_rfl) (fun _ _ _ _ h => h) (fun W hW => exec_loadE rfl rfl hW hx) hHeld ?_
        simp only [List.setIfInBounds_toArray, List.set_cons_zero, List.set_cons_succ]
        refine held_take 5 45 (.slice (some ⟨g, 0, none⟩) nn c) (by simp only [List.getElem?_toArray, List.getElem?_cons_succ, List.getElem?_cons_zero]; rfl) rfl rfl (by kernel_rfl) (by kernel_rfl) (by kernel_rfl) (fun _ _ _ _ h => h) (by intro W hW; go_simp) hHeld ?_
        simp only [List.setIfInBounds_toArray, List.set_cons_zero, List.set_cons_succ]
        refine held_take 6 46 (.int .i64 a) (by simp only [List.getElem?_toArray, List.getElem?_cons_succ, List.getElem?_cons_zero]; rfl) rfl rfl (by kernel_rfl) (by kernel_rfl) (by kernel_rfl) (fun _ _ _ _ h => h) (by intro W hW; go_simp) hHeld ?_
        simp only [List.setIfInBounds_toArray, List.set_cons_zero, List.set_cons_succ]
        refine held_take 7 47 (.pointer (some ⟨g, (a * 3), none⟩)) (by simp only [List.getElem?_toArray, List.getElem?_cons_succ, List.getElem?_cons_zero]; rfl) rfl rfl (by kernel_rfl) (by kernel_rfl) (by kernel_rfl) (fun _ _ _ _ h => h) (by intro W hW; go_simp) hHeld ?_
        simp only [List.setIfInBounds_toArray, List.set_cons_zero, List.set_cons_succ]
        refine held_take 8 48 (edV y) (by simp only [List.getElem?_toArray, List.getElem?_cons_succ, List.getElem?_cons_zero]; rfl) rfl rfl (by kernel_rfl) (by kernel_rfl) (by kernel_rfl) (fun _ _ _ _ h => h) (fun W hW => exec_loadE rfl rfl hW hy) hHeld ?_
        simp only [List.setIfInBounds_toArray, List.set_cons_zero, List.set_cons_succ]
        refine held_call 9 49 82 #[edV x, edV y] (by simp only [List.getElem?_toArray, List.getElem?_cons_succ, List.getElem?_cons_zero]; rfl) rfl rfl (by kernel_rfl) (by intro W; go_simp) ?_
        refine (byId x y _).mono ?_
        rintro e w3 ⟨rfl, B3⟩
        have hHeld := hHeld.on B3
        have C3 : Chg [g] wr w3 := (Chg.refl [g] wr).drew.trans (Chg.of_below B3 [g])
        refine ⟨_, rfl, hHeld, ?_⟩
        simp only [List.setIfInBounds_toArray, List.set_cons_zero, List.set_cons_succ]
        refine held_take 10 50 (.bool true) (by simp only [List.getElem?_toArray, List.getElem?_cons_succ, List.getElem?_cons_zero]; rfl) rfl rfl (by kernel_rfl) (by kernel_rfl) (by kernel_rfl) (fun _ _ _ _ h => h) (by intro W hW; go_simp) hHeld ?_
        simp only [List.setIfInBounds_toArray, List.set_cons_zero, List.set_cons_succ]
        refine wpAnyH_done (by kernel_rfl) ?_ _
        go_wp2_with fail
        go_roundw
        case rel =>
          have hh := HH.out
          refine ⟨h + 1, j, by go_num, rfl, by omega, by omega, by omega, hHeld, ⟨fun p c1 c2 => ?_, hL.out.2⟩, HC.out.trans C3⟩
          by_cases e : p = h
          · subst e; rw [HKX.out, HKY.out]; exact hk
          · have := hR p h c1 (by omega) (by omega)
            rw [HKX.out] at this; rw [HKY.out]; omega
        case measure => have := HH.out; simp [intOf]; omega
      · have hdec2 : ¬ cmpN x.1 y.1 < 0 := by have := cmpN_lt x.1 y.1; simpa [hk] using this
        go_wp2_with fail
        refine wp_region_held_drew (S := fun W => RowE W g c es) (by kernel_rfl) HR.out.drew' (fun hHeld => ?_)
        refine held_take 0 40 (.func (.func 82) #[] #[]) (by simp only [List.getElem?_toArray, List.getElem?_cons_zero]; rfl) rfl rfl (by kernel_rfl) (by kernel_rfl) (by kernel_rfl) (fun _ _ _ _ h => h) (by intro W hW; go_simp) hHeld ?_
        simp only [List.setIfInBounds_toArray, List.set_cons_zero, List.set_cons_succ]
        refine held_take 1 41 (.slice (some ⟨g, 0, none⟩) nn c) (by simp only [List.getElem?_toArray, List.getElem?_cons_succ, List.getElem?_cons_zero]; rfl) rfl rfl (by kernel_rfl) (by kernel_rfl) (by kernel_rfl) (fun _ _ _ _ h => h) (by intro W hW; go_simp) hHeld ?_
        simp only [List.setIfInBounds_toArray, List.set_cons_zero, List.set_cons_succ]
        refine held_take 2 42 (.int .i64 h) (by simp only [List.getElem?_toArray, List.getElem?_cons_succ, List.getElem?_cons_zero]; rfl) rfl rfl (by kernel_rfl) (by kernel_rfl) (by kernel_rfl) (fun _ _ _ _ h => h) (by intro W hW; go_simp) hHeld ?_
        simp only [List.setIfInBounds_toArray, List.set_cons_zero, List.set_cons_succ]
        refine held_take 3 43 (.pointer (some ⟨g, (h * 3), none⟩)) (by simp only [List.getElem?_toArray, List.getElem?_cons_succ, List.getElem?_cons_zero]; rfl) rfl rfl (by kernel_rfl) (by kernel_rfl) (by kernel_rfl) (fun _ _ _ _ h => h) (by intro W hW; go_simp) hHeld ?_
        simp only [List.setIfInBounds_toArray, List.set_cons_zero, List.set_cons_succ]
        refine held_take 4 44 (edV x) (by simp only [List.getElem?_toArray, List.getElem?_cons_succ, List.getElem?_cons_zero]; rfl) rfl rfl (by kernel_rfl) (by kernel_rfl) (by kernel_rfl) (fun _ _ _ _ h => h) (fun W hW => exec_loadE rfl rfl hW hx) hHeld ?_
        simp only [List.setIfInBounds_toArray, List.set_cons_zero, List.set_cons_succ]
        refine held_take 5 45 (.slice (some ⟨g, 0, none⟩) nn c) (by simp only [List.getElem?_toArray, List.getElem?_cons_succ, List.getElem?_cons_zero]; rfl) rfl rfl (by kernel_rfl) (by kernel_rfl) (by kernel_rfl) (fun _ _ _ _ h => h) (by intro W hW; go_simp) hHeld ?_
        simp only [List.setIfInBounds_toArray, List.set_cons_zero, List.set_cons_succ]
        refine held_take 6 46 (.int .i64 a) (by simp only [List.getElem?_toArray, List.getElem?_cons_succ, List.getElem?_cons_zero]; rfl) rfl rfl (by kernel_rfl) (by kernel_rfl) (by kernel_rfl) (fun _ _ _ _ h => h) (by intro W hW; go_simp) hHeld ?_
        simp only [List.setIfInBounds_toArray, List.set_cons_zero, List.set_cons_succ]
        refine held_take 7 47 (.pointer (some ⟨g, (a * 3), none⟩)) (by simp only [List.getElem?_toArray, List.getElem?_cons_succ, List.getElem?_cons_zero]; rfl) rfl rfl (by kernel_rfl) (by kernel_rfl) (by kernel_rfl) (fun _ _ _ _ h => h) (by intro W hW; go_simp) hHeld ?_
        simp only [List.setIfInBounds_toArray, List.set_cons_zero, List.set_cons_succ]
        refine held_take 8 48 (edV y) (by simp only [List.getElem?_toArray, List.getElem?_cons_succ, List.getElem?_cons_zero]; rfl) rfl rfl (by kernel_rfl) (by kernel_rfl) (by kernel_rfl) (fun _ _ _ _ h => h) (fun W hW => exec_loadE rfl rfl hW hy) hHeld ?_
        simp only [List.setIfInBounds_toArray, List.set_cons_zero, List.set_cons_succ]
        refine held_call 9 49 82 #[edV x, edV y] (by simp only [List.getElem?_toArray, List.getElem?_cons_succ, List.getElem?_cons_zero]; rfl) rfl rfl (by kernel_rfl) (by intro W; go_simp) ?_
        refine (byId x y _).mono ?_
        rintro e w3 ⟨rfl, B3⟩
        have hHeld := hHeld.on B3
        have C3 : Chg [g] wr w3 := (Chg.refl [g] wr).drew.trans (Chg.of_below B3 [g])
        refine ⟨_, rfl, hHeld, ?_⟩
        simp only [List.setIfInBounds_toArray, List.set_cons_zero, List.set_cons_succ]
        refine held_take 10 50 (.bool false) (by simp only [List.getElem?_toArray, List.getElem?_cons_succ, List.getElem?_cons_zero]; rfl) rfl rfl (by kernel_rfl) (by kernel_rfl) (by kernel_rfl) (fun _ _ _ _ h => h) (by intro W hW; go_simp) hHeld ?_
        simp only [List.setIfInBounds_toArray, List.set_cons_zero, List.set_cons_succ]
        refine wpAnyH_done (by kernel_rfl) ?_ _
        go_wp2_with fail
        go_roundw
        case rel =>
          have hh := HH.out
          refine ⟨i, h, rfl, rfl, by omega, by omega, by omega, hHeld, ⟨hL.out.1, fun p c1 c2 => ?_⟩, HC.out.trans C3⟩
          by_cases e : p = h
          · subst e; rw [HKX.out, HKY.out]; omega
          · have := hR h p (by omega) (by omega) c2
            rw [HKX.out] at this; rw [HKY.out]; omega
        case measure => have := HH.out; simp [intOf]; omega
    · obtain rfl : i = j := by omega
      obtain ⟨im, him⟩ : ∃ im, i = im + 1 := ⟨i - 1, by omega⟩
      have q1 : IntKind.i64.wrap ((i : Int) - 1) = (im : Int) := by rw [IntWalk.i64_in _ (by omega)]; omega
      have hd : decide ((i : Int) < (i : Int)) = false := by simp
      have HIM := Lib.hid him
      have hami : a ≤ im := by omega
      clear him
      obtain ⟨wq, rfl⟩ : ∃ x, x = wr := ⟨_, rfl⟩
      go_wp2_with fail
      go_loopw [13] (fun s13 wr => ∃ (k : Nat) (cur : List Edg), s13 = .int .i64 k ∧ a ≤ k ∧ k ≤ im ∧ RowE wr g c cur ∧ Hid (Like a b es cur ∧ SrtY cur a b k ∧ K cur k = K es a ∧ (∀ p, k < p → K cur p = K es p)) ∧ Chg [g] w wr) (fun s13 _ => im - (intOf s13).toNat)
      case atStart =>
        have ham := HAM.out
        exact ⟨a, es, rfl, Nat.le_refl _, hami, HR.out, ⟨Like.refl _ _ _, Srt.y (by rw [← ham]; exact hR), rfl, fun _ _ => rfl⟩, HC.out⟩
      case round =>
        clear HR HC
        obtain ⟨k, cur, rfl, hk1, hk2, hr, hM, hC⟩ := hrel
        have HR := Lib.hid hr
        have HC := Lib.hid hC
        have hcl := hM.out.1.len
        rw [HNN.out] at hcl
        clear hr hC
        by_cases hlt2 : k < im
        · obtain ⟨kp, hkp⟩ : ∃ kp, kp = k + 1 := ⟨_, rfl⟩
          have him := HIM.out
          have hjl : k < cur.length := by omega
          have hjml : kp < cur.length := by omega
          have hx : cur[k]? = some cur[k] := List.getElem?_eq_getElem hjl
          have hy : cur[kp]? = some cur[kp] := List.getElem?_eq_getElem hjml
          generalize cur[k] = x at hx
          generalize cur[kp] = y at hy
          have hox := HR.out.okAt hx
          have hoy := HR.out.okAt hy
          have q5 : IntKind.i64.wrap ((k : Int) + 1) = (kp : Int) := by rw [IntWalk.i64_in _ (by omega)]; omega
          have q2 : k < nn := by omega
          have q3 : kp < nn := by omega
          have HKP := Lib.hid hkp
          have HCL := Lib.hid hcl
          have hsw := swp_eq hx hy
          have HLT : Hid (K cur kp < K cur k) := by
            have ham := HAM.out
            show _ < _
            rw [hM.out.2.2.1, hM.out.2.2.2 kp (by omega)]
            exact hL.out.1 kp (by omega) (by omega)
          clear hkp hcl him
          go_wp2_with fail
          refine wp_region_held_drew (S := fun _ => True) (by kernel_rfl) trivial (fun hHeld => ?_)
          refine held_take 0 61 (.slice (some ⟨g, 0, none⟩) nn c) (by simp only [List.getElem?_toArray, List.getElem?_cons_zero]; rfl) rfl rfl (by kernel_rfl) (by kernel_rfl) (by kernel_rfl) (fun _ _ _ _ h => h) (by intro W hW; go_simp) hHeld ?_
          simp only [List.setIfInBounds_toArray, List.set_cons_zero, List.set_cons_succ]
          refine held_take 1 62 (.int .i64 k) (by simp only [List.getElem?_toArray, List.getElem?_cons_succ, List.getElem?_cons_zero]; rfl) rfl rfl (by kernel_rfl) (by kernel_rfl) (by kernel_rfl) (fun _ _ _ _ h => h) (by intro W hW; go_simp) hHeld ?_
          simp only [List.setIfInBounds_toArray, List.set_cons_zero, List.set_cons_succ]
          refine held_take 2 63 (.slice (some ⟨g, 0, none⟩) nn c) (by simp only [List.getElem?_toArray, List.getElem?_cons_succ, List.getElem?_cons_zero]; rfl) rfl rfl (by kernel_rfl) (by kernel_rfl) (by kernel_rfl) (fun _ _ _ _ h => h) (by intro W hW; go_simp) hHeld ?_
          simp only [List.setIfInBounds_toArray, List.set_cons_zero, List.set_cons_succ]
          refine held_take 3 64 (.int .i64 k) (by simp only [List.getElem?_toArray, List.getElem?_cons_succ, List.getElem?_cons_zero]; rfl) rfl rfl (by kernel_rfl) (by kernel_rfl) (by kernel_rfl) (fun _ _ _ _ h => h) (by intro W hW; go_simp) hHeld ?_
          simp only [List.setIfInBounds_toArray, List.set_cons_zero, List.set_cons_succ]
          refine held_take 4 65 (.int .i64 kp) (by simp only [List.getElem?_toArray, List.getElem?_cons_succ, List.getElem?_cons_zero]; rfl) rfl rfl (by kernel_rfl) (by kernel_rfl) (by kernel_rfl) (fun _ _ _ _ h => h) (by intro W hW; go_simp) hHeld ?_
          simp only [List.setIfInBounds_toArray, List.set_cons_zero, List.set_cons_succ]
          refine held_take 5 66 (.slice (some ⟨g, 0, none⟩) nn c) (by simp only [List.getElem?_toArray, List.getElem?_cons_succ, List.getElem?_cons_zero]; rfl) rfl rfl (by kernel_rfl) (by kernel_rfl) (by kernel_rfl) (fun _ _ _ _ h => h) (by intro W hW; go_simp) hHeld ?_
          simp only [List.setIfInBounds_toArray, List.set_cons_zero, List.set_cons_succ]
          refine held_take 6 67 (.int .i64 k) (by simp only [List.getElem?_toArray, List.getElem?_cons_succ, List.getElem?_cons_zero]; rfl) rfl rfl (by kernel_rfl) (by kernel_rfl) (by kernel_rfl) (fun _ _ _ _ h => h) (by intro W hW; go_simp) hHeld ?_
          simp only [List.setIfInBounds_toArray, List.set_cons_zero, List.set_cons_succ]
          refine held_take 7 68 (.int .i64 kp) (by simp only [List.getElem?_toArray, List.getElem?_cons_succ, List.getElem?_cons_zero]; rfl) rfl rfl (by kernel_rfl) (by kernel_rfl) (by kernel_rfl) (fun _ _ _ _ h => h) (by intro W hW; go_simp) hHeld ?_
          simp only [List.setIfInBounds_toArray, List.set_cons_zero, List.set_cons_succ]
          refine held_take 8 69 (.pointer (some ⟨g, (kp * 3), none⟩)) (by simp only [List.getElem?_toArray, List.getElem?_cons_succ, List.getElem?_cons_zero]; rfl) rfl rfl (by kernel_rfl) (by kernel_rfl) (by kernel_rfl) (fun _ _ _ _ h => h) (by intro W hW; go_simp) hHeld ?_
          simp only [List.setIfInBounds_toArray, List.set_cons_zero, List.set_cons_succ]
          refine held_take 10 71 (.slice (some ⟨g, 0, none⟩) nn c) (by simp only [List.getElem?_toArray, List.getElem?_cons_succ, List.getElem?_cons_zero]; rfl) rfl rfl (by kernel_rfl) (by kernel_rfl) (by kernel_rfl) (fun _ _ _ _ h => h) (by intro W hW; go_simp) hHeld ?_
          simp only [List.setIfInBounds_toArray, List.set_cons_zero, List.set_cons_succ]
          refine held_take 11 72 (.int .i64 k) (by simp only [List.getElem?_toArray, List.getElem?_cons_succ, List.getElem?_cons_zero]; rfl) rfl rfl (by kernel_rfl) (by kernel_rfl) (by kernel_rfl) (fun _ _ _ _ h => h) (by intro W hW; go_simp) hHeld ?_
          simp only [List.setIfInBounds_toArray, List.set_cons_zero, List.set_cons_succ]
          refine held_take 12 73 (.pointer (some ⟨g, (k * 3), none⟩)) (by simp only [List.getElem?_toArray, List.getElem?_cons_succ, List.getElem?_cons_zero]; rfl) rfl rfl (by kernel_rfl) (by kernel_rfl) (by kernel_rfl) (fun _ _ _ _ h => h) (by intro W hW; go_simp) hHeld ?_
          simp only [List.setIfInBounds_toArray, List.set_cons_zero, List.set_cons_succ]
          refine held_two 9 13 70 74 (edV y) (edV x) (by simp only [List.getElem?_toArray, List.getElem?_cons_succ, List.getElem?_cons_zero]; rfl) (by simp only [List.getElem?_toArray, List.getElem?_cons_succ, List.getElem?_cons_zero]; rfl) rfl rfl (by decide) (by decide) rfl rfl rfl rfl (by kernel_rfl) (by kernel_rfl) (by kernel_rfl) (exec_loadE rfl rfl HR.out.drew' hy) (exec_loadE rfl rfl HR.out.drew' hx) (exec_loadE rfl rfl HR.out.drew' hy) (exec_loadE rfl rfl HR.out.drew' hx) trivial ?_
          simp only [List.setIfInBounds_toArray, List.set_cons_zero, List.set_cons_succ]
          refine held_take 14 75 (.pointer (some ⟨g, (k * 3), none⟩)) (by simp only [List.getElem?_toArray, List.getElem?_cons_succ, List.getElem?_cons_zero]; rfl) rfl rfl (by kernel_rfl) (by kernel_rfl) (by kernel_rfl) (fun _ _ _ _ h => h) (by intro W hW; go_simp) hHeld ?_
          simp only [List.setIfInBounds_toArray, List.set_cons_zero, List.set_cons_succ]
          refine held_storeE 15 (by simp only [List.getElem?_toArray, List.getElem?_cons_succ, List.getElem?_cons_zero]; rfl) rfl rfl (by kernel_rfl) (.tmp 75) (.tmp 70) rfl g c (k) _ y rfl rfl HR.out.drew' hjl hoy ?_
          intro w1 r1 C1 z1
          refine ⟨trivial, ?_⟩
          refine held_take 16 76 (.pointer (some ⟨g, (kp * 3), none⟩)) (by simp only [List.getElem?_toArray, List.getElem?_cons_succ, List.getElem?_cons_zero]; rfl) rfl rfl (by kernel_rfl) (by kernel_rfl) (by kernel_rfl) (fun _ _ _ _ h => h) (by intro W hW; go_simp) hHeld ?_
          simp only [List.setIfInBounds_toArray, List.set_cons_zero, List.set_cons_succ]
          refine held_storeE 17 (by simp only [List.getElem?_toArray, List.getElem?_cons_succ, List.getElem?_cons_zero]; rfl) rfl rfl (by kernel_rfl) (.tmp 76) (.tmp 74) rfl g c (kp) _ x rfl rfl r1 (by rw [List.length_set]; exact hjml) hox ?_
          intro w2 r2 C2 z2
          refine ⟨trivial, ?_⟩
          refine wpAnyH_done (by kernel_rfl) ?_ _
          go_wp2
          go_roundw
          case rel =>
            have hkp := HKP.out
            have hcl := HCL.out
            have him := HIM.out
            obtain ⟨m1, m2, m3, m4⟩ := hM.out
            refine ⟨kp, swp cur k kp, by go_num, by omega, by omega, ?_, ⟨?_, ?_, ?_, ?_⟩, (HC.out.drew.trans C1).trans C2⟩
            · rw [hsw]; exact r2
            · exact m1.swp (by omega) (by omega) (by omega) (by omega) (by have := HNN.out; omega)
            · rw [hkp]; exact m2.swp hk1 (by omega) (by omega) (by rw [← hkp]; exact HLT.out)
            · rw [K_swp (by omega) (by omega), if_pos rfl]; exact m3
            · intro p hp
              rw [K_swp (by omega) (by omega), if_neg (by omega), if_neg (by omega)]; exact m4 p (by omega)
          case measure => have := HKP.out; simp [intOf]; omega
        · obtain rfl : k = im := by omega
          have hd2 : decide ((k : Int) < (k : Int)) = false := by simp
          go_wp2_with fail
          obtain ⟨m1, m2, m3, m4⟩ := hM.out
          have him := HIM.out
          refine bodyPost_ret (v := .tuple #[]) (by simp [results, Try.results141]) rfl ?_
          refine ⟨rfl, cur, HR.out, m1, m2.done ?_, HC.out⟩
          by_cases e : b ≤ k + 1
          · exact .inl e
          · exact .inr (by rw [m3, m4 (k + 1) (by omega)]; exact hL.out.2 (k + 1) (by omega) (by omega))
end Go.Proofs.Ytklmckbpbloonaa
