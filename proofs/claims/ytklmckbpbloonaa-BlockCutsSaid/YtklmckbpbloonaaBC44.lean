/- Parts of the proof: BkT. -/
import Derived.Test.YtklmckbpbloonaaBC33
import Derived.Test.YtklmckbpbloonaaBC38
namespace Go.Proofs.Ytklmckbpbloonaa

def atV (x : Edg) (v : Int) : Prop := x.2.1 = v ∨ x.2.2 = v
section
variable {vs : List Int} {es : List Edg}
theorem other_at {x : Edg} {v : Int} (h : atV x v) : (x.2.1 = v ∧ otherV x v = x.2.2) ∨ (x.2.2 = v ∧ otherV x v = x.2.1) := by
  unfold otherV
  rcases h with h | h
  · left; exact ⟨h, by rw [if_pos h.symm]⟩
  · by_cases h2 : v = x.2.1
    · left; exact ⟨h2.symm, by rw [if_pos h2]⟩
    · right; exact ⟨h, by rw [if_neg h2, if_pos h.symm]⟩
theorem other_zero {x : Edg} {v : Int} (h : ¬ atV x v) : otherV x v = 0 := by
  unfold otherV atV at *
  rw [if_neg (fun e => h (.inl e.symm)), if_neg (fun e => h (.inr e.symm))]
theorem other_mem (hf : Fit vs es) {x : Edg} (hx : x ∈ es) {v : Int} (h : atV x v) : otherV x v ∈ lessV vs v ∧ otherV x v ≠ 0 ∧ otherV x v ≠ v := by
  obtain ⟨e1, e2⟩ := hf.ends x hx
  have hl := hf.loop x hx
  rcases other_at h with ⟨h1, h2⟩ | ⟨h1, h2⟩
  · have hne : x.2.2 ≠ v := fun e => hl (h1.trans e.symm)
    rw [h2]
    exact ⟨List.mem_filter.2 ⟨e2, by simpa using hne⟩, by have := hf.big _ e2; omega, hne⟩
  · have hne : x.2.1 ≠ v := fun e => hl (e.trans h1.symm)
    rw [h2]
    exact ⟨List.mem_filter.2 ⟨e1, by simpa using hne⟩, by have := hf.big _ e1; omega, hne⟩
theorem lessE_at {x : Edg} {v : Int} : x ∈ lessE es v ↔ x ∈ es ∧ ¬ atV x v := by
  unfold lessE
  rw [List.mem_filter]
  unfold offV atV
  simp only [Bool.and_eq_true, bne_iff_ne, ne_eq, not_or]
theorem sub_less {v : Int} : ∀ e ∈ lessE es v, e ∈ es := fun _ he => (lessE_at.1 he).1

/-- Two vertices are told the same place just if they are of one part. -/
theorem pm_same (hs : vs.Pairwise (· < ·)) (hends : ∀ e ∈ es, e.2.1 ∈ vs ∧ e.2.2 ∈ vs) {ps : List (List Int)} (hps : ps = partsTo vs es vs.length) {p q : Int} (hp : p ∈ vs) (hq : q ∈ vs) :
    (mget (pmTo ps ps.length) p).getD 0 = (mget (pmTo ps ps.length) q).getD 0 ↔ lab es p = lab es q := by
  obtain ⟨g1, g2⟩ := pmTo_get ps ps.length
  have hrow : ∀ (j : Nat) (l : List Int) (z : Int), ps[j]? = some l → z ∈ l → ∃ r, ((vs.filter fun v => lab es v == v))[j]? = some r ∧ lab es z = r ∧ l = vs.filter fun x => lab es x == r := fun j l z hj hz => by
    rw [hps, partsTo_all] at hj
    unfold partsL at hj
    rw [List.getElem?_map] at hj
    obtain ⟨r, hr, rfl⟩ := Option.map_eq_some_iff.1 hj
    have := (List.mem_filter.1 hz).2
    exact ⟨r, hr, by simpa using this, rfl⟩
  have hin : ∀ z ∈ vs, ∃ (j : Nat) (l : List Int), ps[j]? = some l ∧ z ∈ l := fun z hz => by
    have hr : lab es z ∈ vs.filter fun v => lab es v == v := List.mem_filter.2 ⟨lab_mem hends hz, by simp [lab_lab]⟩
    obtain ⟨j, hj, e⟩ := List.mem_iff_getElem.1 hr
    refine ⟨j, vs.filter fun x => lab es x == lab es z, ?_, List.mem_filter.2 ⟨hz, by simp⟩⟩
    rw [hps, partsTo_all]
    unfold partsL
    rw [List.getElem?_map, List.getElem?_eq_getElem hj, e]
    rfl
  have hget : ∀ z ∈ vs, ∃ (j : Nat) (l : List Int), mget (pmTo ps ps.length) z = some (j : Int) ∧ ps[j]? = some l ∧ z ∈ l := fun z hz => by
    obtain ⟨j, l, h1, h2⟩ := hin z hz
    have hj : j < ps.length := (List.getElem?_eq_some_iff.1 h1).1
    have h3 := g2 j l z hj h1 h2
    obtain ⟨i, hi⟩ := Option.isSome_iff_exists.1 h3
    obtain ⟨j', l', _, e, h4, h5⟩ := g1 z i hi
    exact ⟨j', l', by rw [hi, e], h4, h5⟩
  obtain ⟨i, l, a1, a2, a3⟩ := hget p hp
  obtain ⟨i', l', b1, b2, b3⟩ := hget q hq
  obtain ⟨r, c1, c2, c3⟩ := hrow i l p a2 a3
  obtain ⟨r', d1, d2, d3⟩ := hrow i' l' q b2 b3
  rw [a1, b1]
  simp only [Option.getD_some]
  constructor
  · intro e
    have : i = i' := by omega
    subst this
    rw [c1] at d1
    injection d1 with d1
    rw [c2, d2, d1]
  · intro e
    have hrr : r = r' := by rw [← c2, ← d2, e]
    subst hrr
    have hnd : (vs.filter fun v => lab es v == v).Nodup := List.Pairwise.imp (fun h => by omega) (hs.sublist List.filter_sublist)
    obtain ⟨k1, k2⟩ := List.getElem?_eq_some_iff.1 c1
    obtain ⟨k3, k4⟩ := List.getElem?_eq_some_iff.1 d1
    have := (List.getElem_inj hnd).1 (k2.trans k4.symm)
    omega
/-- Of those gone through at a vertex: each is joined to the first one of its part; what is joined is of one part. -/
theorem jTo_facts {pm : List (Int × Int)} {v : Int} {js : List Edg} : ∀ k, k ≤ es.length →
    (∀ x ∈ es.take k, otherV x v ≠ 0 → ∃ id, mget (jTo pm v es js k).1 ((mget pm (otherV x v)).getD 0) = some id ∧ Conn (jTo pm v es js k).2 id x.1) ∧
    (∀ i id, mget (jTo pm v es js k).1 i = some id → ∃ y ∈ es, y.1 = id ∧ otherV y v ≠ 0 ∧ (mget pm (otherV y v)).getD 0 = i) ∧
    (∀ e ∈ (jTo pm v es js k).2, e ∈ js ∨ ∃ x ∈ es, ∃ y ∈ es, e.2.1 = y.1 ∧ e.2.2 = x.1 ∧ otherV x v ≠ 0 ∧ otherV y v ≠ 0 ∧ (mget pm (otherV x v)).getD 0 = (mget pm (otherV y v)).getD 0) ∧
    (∀ e ∈ js, e ∈ (jTo pm v es js k).2)
  | 0, _ => by
    refine ⟨fun x hx => by simp at hx, fun i id h => by simp [jTo, mget] at h, fun e he => .inl (by simpa [jTo] using he), fun e he => by simpa [jTo] using he⟩
  | k + 1, hk => by
    obtain ⟨h1, h2, h3, h4⟩ := jTo_facts (pm := pm) (v := v) (js := js) k (by omega)
    have hx : es[k]? = some es[k] := List.getElem?_eq_getElem (by omega)
    have hxm : es[k] ∈ es := List.getElem_mem (by omega)
    rw [jTo_succ hx]
    have htk : es.take (k + 1) = es.take k ++ [es[k]] := takeE_at hx
    rw [htk]
    generalize es[k] = x at hx hxm htk
    generalize jTo pm v es js k = s at h1 h2 h3 h4
    obtain ⟨S1, S2⟩ := s
    simp only at h1 h2 h3 h4
    by_cases h0 : otherV x v = 0
    · rw [jStep_off h0]
      refine ⟨fun y hy hyo => ?_, h2, h3, h4⟩
      rcases List.mem_append.1 hy with hy | hy
      · exact h1 y hy hyo
      · rw [List.mem_singleton.1 hy] at hyo; exact absurd h0 hyo
    · cases hm : mget S1 ((mget pm (otherV x v)).getD 0) with
      | none =>
        rw [jStep_new h0 hm]
        refine ⟨fun y hy hyo => ?_, fun i id hi => ?_, h3, h4⟩
        · rcases List.mem_append.1 hy with hy | hy
          · obtain ⟨id, e1, e2⟩ := h1 y hy hyo
            refine ⟨id, ?_, e2⟩
            simp only [mget_mput]
            rw [if_neg (fun e => by rw [e, hm] at e1; cases e1)]
            exact e1
          · rw [List.mem_singleton.1 hy]
            exact ⟨x.1, by simp [mget_mput], Conn.refl _ _⟩
        · simp only [mget_mput] at hi
          split at hi
          · rename_i e
            injection hi with hi
            exact ⟨x, hxm, hi, h0, e.symm⟩
          · exact h2 i id hi
      | some id0 =>
        rw [jStep_old h0 hm]
        have hsub : ∀ e ∈ S2, e ∈ S2 ++ [((0 : Int), id0, x.1)] := fun e he => List.mem_append_left _ he
        refine ⟨fun y hy hyo => ?_, h2, fun e he => ?_, fun e he => hsub e (h4 e he)⟩
        · rcases List.mem_append.1 hy with hy | hy
          · obtain ⟨id, e1, e2⟩ := h1 y hy hyo
            exact ⟨id, e1, e2.mono hsub⟩
          · rw [List.mem_singleton.1 hy]
            exact ⟨id0, hm, Conn.edge (e := ((0 : Int), id0, x.1)) (by simp)⟩
        · rcases List.mem_append.1 he with he | he
          · exact h3 e he
          · rw [List.mem_singleton.1 he]
            obtain ⟨y, hy, e1, e2, e3⟩ := h2 _ _ hm
            exact .inr ⟨x, hxm, y, hy, e1.symm, rfl, h0, e2, e3.symm⟩
theorem jsTo_mono : ∀ {k k' : Nat}, k ≤ k' → ∀ e ∈ jsTo vs es k, e ∈ jsTo vs es k' := by
  intro k k' h
  induction k' with
  | zero => intro e he; rwa [show k = 0 by omega] at he
  | succ m ih =>
    intro e he
    by_cases hm : k = m + 1
    · rw [← hm]; exact he
    · have h1 := ih (by omega) e he
      cases hv : vs[m]? with
      | none => rw [jsTo, hv]; exact h1
      | some v => rw [jsTo_succ hv]; exact (jTo_facts es.length (Nat.le_refl _)).2.2.2 e h1
/-- Two edges at a vertex, whose other ends hang together without it, are of one class. -/
theorem cls_join (hf : Fit vs es) {x y : Edg} (hx : x ∈ es) (hy : y ∈ es) {v : Int} (hxv : atV x v) (hyv : atV y v) (h : Conn (lessE es v) (otherV x v) (otherV y v)) : clsL vs es x.1 = clsL vs es y.1 := by
  have hv : v ∈ vs := by
    rcases hxv with e | e
    · rw [← e]; exact (hf.ends x hx).1
    · rw [← e]; exact (hf.ends x hx).2
  obtain ⟨k, hk, e⟩ := List.mem_iff_getElem.1 hv
  have hvk : vs[k]? = some v := by rw [List.getElem?_eq_getElem hk, e]
  have h1 := jTo_facts (pm := pmOf vs es v) (v := v) (es := es) (js := jsTo vs es k) es.length (Nat.le_refl _)
  rw [← jsTo_succ hvk] at h1
  obtain ⟨ox1, ox2, _⟩ := other_mem hf hx hxv
  obtain ⟨oy1, oy2, _⟩ := other_mem hf hy hyv
  have hsame : (mget (pmOf vs es v) (otherV x v)).getD 0 = (mget (pmOf vs es v) (otherV y v)).getD 0 :=
    (pm_same (hf.up.sublist List.filter_sublist) (fun e he => by
      obtain ⟨a1, a2⟩ := lessE_at.1 he
      unfold atV at a2
      simp only [not_or] at a2
      exact ⟨List.mem_filter.2 ⟨(hf.ends e a1).1, by simpa using a2.1⟩, List.mem_filter.2 ⟨(hf.ends e a1).2, by simpa using a2.2⟩⟩) (rfl : psOf vs es v = _) ox1 oy1).2 (lab_iff.2 h)
  obtain ⟨id, a1, a2⟩ := h1.1 x (by rw [List.take_length]; exact hx) ox2
  obtain ⟨id', b1, b2⟩ := h1.1 y (by rw [List.take_length]; exact hy) oy2
  rw [hsame, b1] at a1
  injection a1 with a1
  subst a1
  have hc : Conn (jsTo vs es (k + 1)) x.1 y.1 := a2.symm.trans b2
  exact lab_iff.2 (hc.mono (jsTo_mono (by omega)))
/-- What was joined: two edges at a vertex, whose other ends hang together without it. -/
theorem js_sound (hf : Fit vs es) : ∀ k, k ≤ vs.length → ∀ e ∈ jsTo vs es k, ∃ x ∈ es, ∃ y ∈ es, e.2.1 = y.1 ∧ e.2.2 = x.1 ∧ ∃ v, atV x v ∧ atV y v ∧ Conn (lessE es v) (otherV x v) (otherV y v)
  | 0, _ => fun e he => by cases he
  | k + 1, hk => by
    intro e he
    have hvk : vs[k]? = some vs[k] := List.getElem?_eq_getElem (by omega)
    rw [jsTo_succ hvk] at he
    generalize vs[k] = v at hvk he
    rcases (jTo_facts (pm := pmOf vs es v) (v := v) (es := es) (js := jsTo vs es k) es.length (Nat.le_refl _)).2.2.1 e he with he | ⟨x, hx, y, hy, e1, e2, h1, h2, h3⟩
    · exact js_sound hf k (by omega) e he
    · have hxv : atV x v := Classical.byContradiction fun h => h1 (other_zero h)
      have hyv : atV y v := Classical.byContradiction fun h => h2 (other_zero h)
      refine ⟨x, hx, y, hy, e1, e2, v, hxv, hyv, ?_⟩
      exact lab_iff.1 ((pm_same (hf.up.sublist List.filter_sublist) (fun e he => by
        obtain ⟨a1, a2⟩ := lessE_at.1 he
        unfold atV at a2
        simp only [not_or] at a2
        exact ⟨List.mem_filter.2 ⟨(hf.ends e a1).1, by simpa using a2.1⟩, List.mem_filter.2 ⟨(hf.ends e a1).2, by simpa using a2.2⟩⟩) (rfl : psOf vs es v = _) (other_mem hf hx hxv).1 (other_mem hf hy hyv).1).1 h3)
theorem same_id (hf : Fit vs es) {x y : Edg} (hx : x ∈ es) (hy : y ∈ es) (h : x.1 = y.1) : x = y := by
  obtain ⟨i, hi, e1⟩ := List.mem_iff_getElem.1 hx
  obtain ⟨j, hj, e2⟩ := List.mem_iff_getElem.1 hy
  have hnd := fit_keys hf
  have : (es.map Prod.fst)[i]'(by simpa using hi) = (es.map Prod.fst)[j]'(by simpa using hj) := by simp [e1, e2, h]
  have := (List.getElem_inj hnd).1 this
  subst this
  rw [← e1, ← e2]
theorem mem_block {r : Int} {x : Edg} : x ∈ blockL vs es r ↔ x ∈ es ∧ clsL vs es x.1 = r := by unfold blockL; rw [List.mem_filter]; simp
/-- A class is gone through from edge to edge. -/
theorem block_walk (hf : Fit vs es) {r : Int} (Q : Edg → Prop) (hQ : ∀ x ∈ blockL vs es r, ∀ y ∈ blockL vs es r, ∀ v, atV x v → atV y v → Conn (lessE es v) (otherV x v) (otherV y v) → Q x → Q y)
    {x y : Edg} (hx : x ∈ blockL vs es r) (hy : y ∈ blockL vs es r) (h : Q x) : Q y := by
  obtain ⟨hx1, hx2⟩ := mem_block.1 hx
  obtain ⟨hy1, hy2⟩ := mem_block.1 hy
  have hc : Conn (joinsL vs es) x.1 y.1 := lab_iff.1 (hx2.trans hy2.symm)
  have hS := hc (fun id => clsL vs es id = r ∧ ∀ z ∈ es, z.1 = id → Q z) ⟨hx2, fun z hz e => by rw [same_id hf hz hx1 e]; exact h⟩ (fun e he => ?_)
  · exact hS.2 y hy1 rfl
  · obtain ⟨a, ha, b, hb, e1, e2, v, h1, h2, h3⟩ := js_sound hf vs.length (Nat.le_refl _) e he
    have hcl : clsL vs es e.2.1 = clsL vs es e.2.2 := lab_iff.2 (Conn.edge he)
    have key : ∀ p q : Edg, p ∈ es → q ∈ es → clsL vs es p.1 = clsL vs es q.1 → atV p v → atV q v → Conn (lessE es v) (otherV p v) (otherV q v) → (clsL vs es p.1 = r ∧ ∀ z ∈ es, z.1 = p.1 → Q z) → (clsL vs es q.1 = r ∧ ∀ z ∈ es, z.1 = q.1 → Q z) := by
      intro p q hp hq hpq h1 h2 h3 ⟨k1, k2⟩
      refine ⟨hpq ▸ k1, fun z hz ez => ?_⟩
      rw [same_id hf hz hq ez]
      exact hQ p (mem_block.2 ⟨hp, k1⟩) q (mem_block.2 ⟨hq, hpq ▸ k1⟩) v h1 h2 h3 (k2 p hp rfl)
    rw [e1, e2] at hcl ⊢
    exact ⟨key b a hb ha hcl h2 h1 h3.symm, key a b ha hb hcl.symm h1 h2 h3⟩
theorem Conn.ends {x : Edg} {a b : Int} {F : List Edg} (hx : x ∈ F) (ha : atV x a) (hb : atV x b) : Conn F a b := by
  rcases ha with ha | ha <;> rcases hb with hb | hb <;> rw [← ha, ← hb]
  · exact Conn.refl _ _
  · exact Conn.edge hx
  · exact (Conn.edge hx).symm
  · exact Conn.refl _ _
/-- A class hangs together. -/
theorem block_conn (hf : Fit vs es) {r : Int} {x y : Edg} (hx : x ∈ blockL vs es r) (hy : y ∈ blockL vs es r) {a b : Int} (ha : atV x a) (hb : atV y b) : Conn (blockL vs es r) a b := by
  refine block_walk hf (fun z => ∀ c, atV z c → Conn (blockL vs es r) a c) (fun p hp q hq v h1 h2 _ hQ c hc => ?_) hx hy (fun c hc => Conn.ends hx ha hc) b hb
  exact (hQ v h1).trans (Conn.ends hq h2 hc)
/-- Whatever is reached from s by edges of F is reached from one of them at s, without s. -/
theorem conn_exit {F : List Edg} (hF : ∀ e ∈ F, e ∈ es) {s z : Int} (h : Conn F s z) (hne : z ≠ s) : ∃ e ∈ F, atV e s ∧ Conn (lessE es s) (otherV e s) z := by
  have key : ∀ e ∈ F, ∀ a b : Int, atV e a → atV e b → a ≠ b → (a = s ∨ ∃ e ∈ F, atV e s ∧ Conn (lessE es s) (otherV e s) a) → (b = s ∨ ∃ e ∈ F, atV e s ∧ Conn (lessE es s) (otherV e s) b) := by
    intro e he a b ha hb hab h
    by_cases hbs : b = s
    · exact .inl hbs
    · right
      rcases h with h | ⟨f, hf, h1, h2⟩
      · refine ⟨e, he, by rw [← h]; exact ha, ?_⟩
        have : otherV e s = b := by
          rcases other_at (show atV e s by rw [← h]; exact ha) with ⟨k1, k2⟩ | ⟨k1, k2⟩
          · rw [k2]
            rcases hb with hb | hb
            · exact absurd (h.trans (k1.symm.trans hb)) hab
            · exact hb
          · rw [k2]
            rcases hb with hb | hb
            · exact hb
            · exact absurd (h.trans (k1.symm.trans hb)) hab
        rw [this]; exact Conn.refl _ _
      · by_cases has : a = s
        · refine ⟨e, he, by rw [← has]; exact ha, ?_⟩
          have : otherV e s = b := by
            rcases other_at (show atV e s by rw [← has]; exact ha) with ⟨k1, k2⟩ | ⟨k1, k2⟩
            · rw [k2]
              rcases hb with hb | hb
              · exact absurd (has.trans (k1.symm.trans hb)) hab
              · exact hb
            · rw [k2]
              rcases hb with hb | hb
              · exact hb
              · exact absurd (has.trans (k1.symm.trans hb)) hab
          rw [this]; exact Conn.refl _ _
        · have hel : e ∈ lessE es s := lessE_at.2 ⟨hF e he, fun hes => by
            have h3 : ∀ c, atV e c → c = a ∨ c = b := fun c hc => by
              rcases hc with hc | hc <;> rcases ha with ha | ha <;> rcases hb with hb | hb
              · exact .inl (hc.symm.trans ha)
              · exact .inl (hc.symm.trans ha)
              · exact .inr (hc.symm.trans hb)
              · exact absurd (ha.symm.trans hb) hab
              · exact absurd (ha.symm.trans hb) hab
              · exact .inr (hc.symm.trans hb)
              · exact .inl (hc.symm.trans ha)
              · exact .inl (hc.symm.trans ha)
            rcases h3 s hes with q | q
            · exact has q.symm
            · exact hbs q.symm⟩
          exact ⟨f, hf, h1, h2.trans (Conn.ends hel ha hb)⟩
  have hS := h (fun z => z = s ∨ ∃ e ∈ F, atV e s ∧ Conn (lessE es s) (otherV e s) z) (.inl rfl) (fun e he => by
    by_cases hab : e.2.1 = e.2.2
    · rw [hab]
    · exact ⟨key e he _ _ (.inl rfl) (.inr rfl) hab, key e he _ _ (.inr rfl) (.inl rfl) (Ne.symm hab)⟩)
  rcases hS with h1 | h1
  · exact absurd h1 hne
  · exact h1
/-- The vertices of a class. -/
def onB (vs : List Int) (es : List Edg) (r s : Int) : Prop := ∃ x ∈ blockL vs es r, atV x s
/-- Unlike vertices of a class are not joined by edges outside it. -/
theorem block_out (hf : Fit vs es) {r s s' : Int} (hs : onB vs es r s) (hs' : onB vs es r s') {F : List Edg} (hF : ∀ e ∈ F, e ∈ es ∧ clsL vs es e.1 ≠ r) (h : Conn F s s') : s' = s := by
  refine Classical.byContradiction fun hne => ?_
  obtain ⟨x, hx, hxs⟩ := hs
  obtain ⟨y, hy, hys⟩ := hs'
  obtain ⟨e2, he2, a2, c2⟩ := conn_exit (fun e he => (hF e he).1) h hne
  obtain ⟨e1, he1, a1, c1⟩ := conn_exit (fun e he => (mem_block.1 he).1) (block_conn hf hx hy hxs hys) hne
  have := cls_join hf (mem_block.1 he1).1 (hF e2 he2).1 a1 a2 (c1.trans c2.symm)
  exact (hF e2 he2).2 (this ▸ (mem_block.1 he1).2)
/-- Two blocks have at most one vertex together. -/
theorem block_two (hf : Fit vs es) {r r' s s' : Int} (hr : r ≠ r') (h1 : onB vs es r s) (h2 : onB vs es r s') (h3 : onB vs es r' s) (h4 : onB vs es r' s') : s' = s := by
  obtain ⟨x, hx, hxs⟩ := h3
  obtain ⟨y, hy, hys⟩ := h4
  exact block_out hf h1 h2 (fun e he => ⟨(mem_block.1 he).1, fun e2 => hr (e2.symm.trans (mem_block.1 he).2)⟩) (block_conn hf hx hy hxs hys)
/-- A way between two of its vertices, without v, goes over into one in the block. -/
theorem block_in (hf : Fit vs es) {r v p q : Int} (hp : onB vs es r p) (hq : onB vs es r q) (h : Conn (lessE es v) p q) : Conn (lessE (blockL vs es r) v) p q := by
  have hFm : ∀ e ∈ es.filter (fun x => clsL vs es x.1 != r), e ∈ es ∧ clsL vs es e.1 ≠ r := fun e he => by
    obtain ⟨a, b⟩ := List.mem_filter.1 he
    exact ⟨a, by simpa using b⟩
  have key : ∀ e ∈ lessE es v, ∀ a b : Int, atV e a → atV e b → (∃ s, onB vs es r s ∧ Conn (es.filter fun x => clsL vs es x.1 != r) a s ∧ Conn (lessE (blockL vs es r) v) p s) → (∃ s, onB vs es r s ∧ Conn (es.filter fun x => clsL vs es x.1 != r) b s ∧ Conn (lessE (blockL vs es r) v) p s) := by
    rintro e he a b ha hb ⟨s, k1, k2, k3⟩
    obtain ⟨he1, he2⟩ := lessE_at.1 he
    by_cases hc : clsL vs es e.1 = r
    · have heB : e ∈ blockL vs es r := mem_block.2 ⟨he1, hc⟩
      have hsa : s = a := block_out hf ⟨e, heB, ha⟩ k1 hFm k2
      subst hsa
      exact ⟨b, ⟨e, heB, hb⟩, Conn.refl _ _, k3.trans (Conn.ends (lessE_at.2 ⟨heB, he2⟩) ha hb)⟩
    · have heF : e ∈ es.filter (fun x => clsL vs es x.1 != r) := List.mem_filter.2 ⟨he1, by simpa using hc⟩
      exact ⟨s, k1, (Conn.ends heF hb ha).trans k2, k3⟩
  obtain ⟨s, k1, k2, k3⟩ := h (fun z => ∃ s, onB vs es r s ∧ Conn (es.filter fun x => clsL vs es x.1 != r) z s ∧ Conn (lessE (blockL vs es r) v) p s) ⟨p, hp, Conn.refl _ _, Conn.refl _ _⟩
    (fun e he => ⟨key e he _ _ (.inl rfl) (.inr rfl), key e he _ _ (.inr rfl) (.inl rfl)⟩)
  have : s = q := block_out hf hq k1 hFm k2
  rw [← this]; exact k3
/-- Without any vertex a block hangs together. -/
theorem block_less (hf : Fit vs es) {r v a b : Int} (ha : onB vs es r a) (hb : onB vs es r b) (hav : a ≠ v) (hbv : b ≠ v) : Conn (lessE (blockL vs es r) v) a b := by
  obtain ⟨x, hx, hxa⟩ := ha
  obtain ⟨y, hy, hyb⟩ := hb
  have ends2 : ∀ z : Edg, z ∈ blockL vs es r → ∀ c d, atV z c → atV z d → c ≠ v → d ≠ v → Conn (lessE (blockL vs es r) v) c d := by
    intro z hz c d hc hd hcv hdv
    by_cases hcd : c = d
    · rw [hcd]; exact Conn.refl _ _
    · refine Conn.ends (lessE_at.2 ⟨hz, fun hzv => ?_⟩) hc hd
      rcases hc with hc | hc <;> rcases hd with hd | hd <;> rcases hzv with hzv | hzv
      · exact hcd (hc.symm.trans hd)
      · exact hcd (hc.symm.trans hd)
      · exact hcv (hc.symm.trans hzv)
      · exact hdv (hd.symm.trans hzv)
      · exact hdv (hd.symm.trans hzv)
      · exact hcv (hc.symm.trans hzv)
      · exact hcd (hc.symm.trans hd)
      · exact hcd (hc.symm.trans hd)
  refine block_walk hf (fun z => ∀ c, atV z c → c ≠ v → Conn (lessE (blockL vs es r) v) a c) (fun p hp q hq u h1 h2 h3 hQ c hc hcv => ?_) hx hy (fun c hc hcv => ends2 x hx a c hxa hc hav hcv) b hyb hbv
  obtain ⟨hp1, hp2⟩ := mem_block.1 hp
  obtain ⟨hq1, hq2⟩ := mem_block.1 hq
  by_cases huv : u = v
  · subst huv
    obtain ⟨_, _, op⟩ := other_mem hf hp1 h1
    obtain ⟨_, _, oq⟩ := other_mem hf hq1 h2
    have apo : atV p (otherV p u) := by
      rcases other_at h1 with ⟨_, k⟩ | ⟨_, k⟩ <;> rw [k]
      · exact .inr rfl
      · exact .inl rfl
    have aqo : atV q (otherV q u) := by
      rcases other_at h2 with ⟨_, k⟩ | ⟨_, k⟩ <;> rw [k]
      · exact .inr rfl
      · exact .inl rfl
    exact ((hQ _ apo op).trans (block_in hf ⟨p, hp, apo⟩ ⟨q, hq, aqo⟩ h3)).trans (ends2 q hq _ c aqo hc oq hcv)
  · exact (hQ u h1 huv).trans (ends2 q hq u c h2 hc huv hcv)
end
end Go.Proofs.Ytklmckbpbloonaa
