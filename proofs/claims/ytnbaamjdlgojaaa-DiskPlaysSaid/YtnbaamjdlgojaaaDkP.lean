/- Plain: what the law DiskLasts follows. -/
import Derived.Test.YtnbaamjdlgojaaaDkA
namespace Go.Proofs.Ytnbaamjdlgojaaa

def byte0 (b : Bl) : Int := b.getD 0 0
theorem byte0_one (x : Int) : byte0 (oneB x) = x := rfl
theorem byte0_ok {b : Bl} (h : okB b) : 0 ≤ byte0 b ∧ byte0 b < 256 := by
  unfold byte0
  have hl : 0 < b.length := by rw [h.1]; omega
  rw [List.getD_eq_getElem?_getD, List.getElem?_eq_getElem hl]
  exact h.2 _ (List.getElem_mem hl)
/-- The power is there, and no fuse; n sectors. -/
structure Calm (s : DS) : Prop where
  fuse : s.fuse = -1
  down : s.down = false
  len : s.last.length = 64
theorem calm_may {s : DS} (h : Calm s) {n : Int} (hn : 0 ≤ n ∧ n < 64) : mayN s n = 0 := by
  unfold mayN
  rw [h.down, if_neg (by simp), if_neg (by rw [h.len]; omega)]
theorem calm_may_bad {s : DS} (h : Calm s) {n : Int} (hn : ¬ (0 ≤ n ∧ n < 64)) : mayN s n = 2 := by
  unfold mayN
  rw [h.down, if_neg (by simp), if_pos (by rw [h.len]; omega)]
theorem calm_ticked {s : DS} (h : Calm s) : ticked s = { s with steps := s.steps + 1 } := by
  unfold ticked; rw [if_neg (by rw [h.fuse]; omega), if_neg (by rw [h.fuse]; omega)]
theorem calm_writeN {s : DS} (h : Calm s) {n : Int} (hn : 0 ≤ n ∧ n < 64) : writeN s n = 0 := by
  unfold writeN tickN; rw [if_pos (calm_may h hn), if_neg (by rw [h.fuse]; omega)]
theorem calm_writeN_bad {s : DS} (h : Calm s) {n : Int} (hn : ¬ (0 ≤ n ∧ n < 64)) : writeN s n = 2 := by
  unfold writeN; rw [calm_may_bad h hn]; rfl
theorem calm_wrote {s : DS} (h : Calm s) {n : Int} (hn : 0 ≤ n ∧ n < 64) (b : Bl) : wrote s n b = { s with steps := s.steps + 1, cache := mput s.cache n b } := by
  unfold wrote; rw [if_pos (calm_may h hn), if_neg (by rw [h.fuse]; omega), calm_ticked h]
theorem calm_wrote_bad {s : DS} (h : Calm s) {n : Int} (hn : ¬ (0 ≤ n ∧ n < 64)) (b : Bl) : wrote s n b = s := by
  unfold wrote; rw [calm_may_bad h hn]; rfl
theorem calm_wrote_calm {s : DS} (h : Calm s) (n : Int) (b : Bl) : Calm (wrote s n b) ∧ (wrote s n b).steps ≤ s.steps + 1 ∧ s.steps ≤ (wrote s n b).steps := by
  by_cases hn : 0 ≤ n ∧ n < 64
  · rw [calm_wrote h hn]; exact ⟨⟨h.fuse, h.down, h.len⟩, Int.le_refl _, by show s.steps ≤ s.steps + 1; omega⟩
  · rw [calm_wrote_bad h hn]; exact ⟨h, by omega, by omega⟩
theorem calm_barrier {s : DS} (h : Calm s) : barrierN s = 0 ∧ barriered s = { s with steps := s.steps + 1, cache := [], last := laidK s.last s.cache [] } := by
  have hd := h.down
  refine ⟨?_, ?_⟩
  · unfold barrierN tickN; rw [hd, if_neg (by simp), if_neg (by rw [h.fuse]; omega)]
  · unfold barriered; rw [if_neg (by rw [hd]; simp), if_neg (by rw [h.fuse]; omega), calm_ticked h]
theorem mput_len {α : Type} (m : List (Int × α)) (k : Int) (v : α) : (mput m k v).length ≤ m.length + 1 := by
  unfold mput; split <;> simp
/-- The map 'last' tells the first bytes. -/
structure Track (s : DS) (L : List Bl) (m : List (Int × Int)) : Prop where
  calm : Calm s
  last : s.last = L
  tells : ∀ i : Int, 0 ≤ i ∧ i < 64 → mget m i = some (byte0 ((mget s.cache i).getD (L.getD i.toNat [])))
theorem track_ok {s : DS} {L : List Bl} {m : List (Int × Int)} (h : Track s L m) {n : Int} (hn : 0 ≤ n ∧ n < 64) (x : Int) : Track (wrote s n (oneB x)) L (mput m n x) := by
  rw [calm_wrote h.calm hn]
  refine ⟨⟨h.calm.fuse, h.calm.down, h.calm.len⟩, h.last, fun i hi => ?_⟩
  simp only [mget_mput]
  by_cases e : i = n
  · rw [if_pos e, if_pos e]; rfl
  · rw [if_neg e, if_neg e]; exact h.tells i hi
theorem track_cache {s : DS} {L : List Bl} {m : List (Int × Int)} (h : Track s L m) (n : Int) (b : Bl) : (wrote s n b).cache.length ≤ s.cache.length + 1 := by
  by_cases hn : 0 ≤ n ∧ n < 64
  · rw [calm_wrote h.calm hn]; exact mput_len _ _ _
  · rw [calm_wrote_bad h.calm hn]; omega
def firstF (L : List Bl) (i : Int) : Int := byte0 (L.getD i.toNat [])
def upTo (k : Nat) : List Int := (List.range k).map fun i : Nat => (i : Int)
theorem upTo_succ (k : Nat) : upTo (k + 1) = upTo k ++ [(k : Int)] := by simp [upTo, List.range_succ]
theorem mem_upTo {k : Nat} {i : Int} : i ∈ upTo k ↔ 0 ≤ i ∧ i < k := by
  unfold upTo
  simp only [List.mem_map, List.mem_range]
  exact ⟨fun ⟨j, hj, e⟩ => by omega, fun h => ⟨i.toNat, by omega, by omega⟩⟩
theorem first_put (L : List Bl) (k : Nat) : mput (mapF (upTo k) (firstF L)) k (firstF L k) = mapF (upTo (k + 1)) (firstF L) := by
  rw [upTo_succ]; exact mput_mapF_new (firstF L) (by rw [mem_upTo]; omega)
theorem first_get {L : List Bl} {k : Nat} {i : Int} (h : 0 ≤ i ∧ i < k) : mget (mapF (upTo k) (firstF L)) i = some (firstF L i) := by
  rw [mget_mapF, if_pos (mem_upTo.2 h)]
theorem track_start {s : DS} (h : Calm s) (hc : s.cache = []) : Track s s.last (mapF (upTo 64) (firstF s.last)) :=
  ⟨h, rfl, fun i hi => by rw [first_get hi, hc]; rfl⟩
/-- What lasts behind a crash was there, or was written. -/
theorem crash_at {last : List Bl} {m : List (Int × Bl)} {ws : List Int} (kept : List Bool) (hw : ∀ x ∈ ws, 0 ≤ x ∧ ∃ v, mget m x = some v) : ∀ (k : Nat), k ≤ ws.length → ∀ i : Nat, i < last.length → (crashTo last m ws kept k)[i]? = last[i]? ∨ ∃ v, mget m i = some v ∧ (crashTo last m ws kept k)[i]? = some v
  | 0, _, _, _ => .inl rfl
  | k + 1, hk, i, hi => by
    have ih := crash_at kept hw k (by omega) i hi
    unfold crashTo
    split
    · have hx : ws.getD k 0 ∈ ws := by rw [List.getD_eq_getElem?_getD, List.getElem?_eq_getElem (by omega)]; exact List.getElem_mem _
      obtain ⟨h0, v, hv⟩ := hw _ hx
      rw [List.getElem?_set]
      by_cases e : (ws.getD k 0).toNat = i
      · rw [if_pos e, if_pos (by rw [crashTo_len, e]; exact hi)]
        right
        have e2 : ws.getD k 0 = (i : Int) := by omega
        rw [e2] at hv ⊢
        exact ⟨v, hv, by rw [hv]; rfl⟩
      · rw [if_neg e]; exact ih
    · exact ih
theorem crash_calm {s : DS} (h : Calm s) (kept : List Bool) : Calm (crashed s kept) := by
  unfold crashed; exact ⟨rfl, rfl, by simp only [crashTo_len]; exact h.len⟩
theorem crash_reads {s : DS} {L : List Bl} {m : List (Int × Int)} (h : Track s L m) (ho : DsOk s) (kept : List Bool) {i : Nat} (hi : i < 64) :
    mayN (crashed s kept) i = 0 ∧ readB (crashed s kept) i = lastB (crashed s kept) i ∧ (byte0 (lastB (crashed s kept) i) = firstF L i ∨ mget m (i : Int) = some (byte0 (lastB (crashed s kept) i))) := by
  have hc := crash_calm h.calm kept
  have hm := calm_may hc (n := (i : Int)) (by omega)
  have hl : (lastB (crashed s kept) i) = (crashed s kept).last.getD i [] := by unfold lastB; rw [if_neg (by rw [hc.len]; omega)]; rfl
  refine ⟨hm, ?_, ?_⟩
  · unfold readB; rw [if_pos hm, hl]; rfl
  · rw [hl]
    have hwk : ∀ x ∈ waitL s, 0 ≤ x ∧ ∃ v, mget s.cache x = some v := fun x hx => by
      have hx := waitL_mem.1 hx
      exact ⟨(ho.keys x hx).1, Option.isSome_iff_exists.1 (mget_some.2 hx)⟩
    have hlen : i < s.last.length := by rw [h.calm.len]; exact hi
    rcases crash_at (last := s.last) kept hwk _ (Nat.le_refl _) i hlen with e | ⟨v, hv, e⟩
    · left
      show byte0 ((crashTo s.last s.cache (waitL s) kept (waitL s).length).getD i []) = _
      rw [List.getD_eq_getElem?_getD, e, h.last, ← List.getD_eq_getElem?_getD]; rfl
    · right
      rw [h.tells i (by omega), hv]
      show _ = some (byte0 ((crashTo s.last s.cache (waitL s) kept (waitL s).length).getD i []))
      have e2 : (crashTo s.last s.cache (waitL s) kept (waitL s).length).getD i [] = v := by rw [List.getD_eq_getElem?_getD, e]; rfl
      rw [e2]; rfl
end Go.Proofs.Ytnbaamjdlgojaaa
