/- Parts of the proof: BkS. -/
import Derived.Test.YtklmckbpbloonaaBC39
import Derived.Test.YtklmckbpbloonaaBC16
import Derived.Test.YtklmckbpbloonaaBC31
import Derived.Shelf.SlSortCmp.NoneTotal
import Derived.Ground.SlsfProg
namespace Go.Proofs.Ytklmckbpbloonaa
open Go.Sort Go.RowKit Go.Shelf

def bsL_ren : Go.Shelf.Ren := ⟨fun | 6 => 76 | 15 => 106 | 14 => 105 | 28 => 129 | 29 => 130 | 20 => 121 | 21 => 122 | 22 => 123 | 23 => 124 | 24 => 125 | 25 => 126 | 26 => 127 | 27 => 128 | 46 => 148 | 47 => 149 | 48 => 150 | 49 => 151 | 50 => 152 | 57 => 168 | n => n, fun | 22 => 57 | 24 => 23 | 25 => 102 | 3 => 3 | 39 => 121 | 0 => 0 | 53 => 31 | 55 => 146 | 4 => 4 | 46 => 139 | 45 => 138 | 50 => 115 | 5 => 5 | 9 => 9 | 66 => 157 | 70 => 161 | 76 => 171 | 77 => 172 | n => n, fun | n => n⟩
theorem bsL : Go.Proofs.SlLaysF.n6 Try.prog bsL_ren := {
  mixed := by kernel_rfl
  f6 := ⟨Try.f76.name, by decide, Try.func76.trans (congrArg some (by kernel_rfl))⟩
  f14 := ⟨Try.f105.name, by decide, Try.func105.trans (congrArg some (by kernel_rfl))⟩
  f15 := Try.func106.trans (congrArg some (by kernel_rfl))
  f20 := ⟨Try.f121.name, by decide, Try.func121.trans (congrArg some (by kernel_rfl))⟩
  f21 := ⟨Try.f122.name, by decide, Try.func122.trans (congrArg some (by kernel_rfl))⟩
  f22 := ⟨Try.f123.name, by decide, Try.func123.trans (congrArg some (by kernel_rfl))⟩
  f23 := ⟨Try.f124.name, by decide, Try.func124.trans (congrArg some (by kernel_rfl))⟩
  f24 := ⟨Try.f125.name, by decide, Try.func125.trans (congrArg some (by kernel_rfl))⟩
  f25 := ⟨Try.f126.name, by decide, Try.func126.trans (congrArg some (by kernel_rfl))⟩
  f26 := ⟨Try.f127.name, by decide, Try.func127.trans (congrArg some (by kernel_rfl))⟩
  f27 := ⟨Try.f128.name, by decide, Try.func128.trans (congrArg some (by kernel_rfl))⟩
  f28 := Try.func129.trans (congrArg some (by kernel_rfl))
  f29 := Try.func130.trans (congrArg some (by kernel_rfl))
  f46 := ⟨Try.f148.name, by decide, Try.func148.trans (congrArg some (by kernel_rfl))⟩
  f47 := Try.func149.trans (congrArg some (by kernel_rfl))
  f48 := Try.func150.trans (congrArg some (by kernel_rfl))
  f49 := ⟨Try.f151.name, by decide, Try.func151.trans (congrArg some (by kernel_rfl))⟩
  f50 := ⟨Try.f152.name, by decide, Try.func152.trans (congrArg some (by kernel_rfl))⟩
  f57 := ⟨Try.f168.name, by decide, Try.func168.trans (congrArg some (by kernel_rfl))⟩
  t0 := Try.underlying0
  a0 := Try.isAgg0
  z0 := Try.sizeOf0
  v0 := Try.zeroValue0
  t3 := Try.underlying3
  a3 := Try.isAgg3
  z3 := Try.sizeOf3
  v3 := Try.zeroValue3
  t4 := Try.underlying4
  a4 := Try.isAgg4
  z4 := Try.sizeOf4
  v4 := Try.zeroValue4
  t5 := Try.underlying5
  a5 := Try.isAgg5
  z5 := Try.sizeOf5
  v5 := Try.zeroValue5
  t9 := Try.underlying9
  a9 := Try.isAgg9
  z9 := Try.sizeOf9
  v9 := Try.zeroValue9
  t22 := Try.underlying57
  a22 := Try.isAgg57
  z22 := Try.sizeOf57
  v22 := Try.zeroValue57
  a24 := Try.isAgg23
  z24 := Try.sizeOf23
  t25 := Try.underlying102
  a25 := Try.isAgg102
  z25 := Try.sizeOf102
  v25 := Try.zeroValue102
  t39 := Try.underlying121
  a39 := Try.isAgg121
  z39 := Try.sizeOf121
  v39 := Try.zeroValue121
  t45 := Try.underlying138
  a45 := Try.isAgg138
  z45 := Try.sizeOf138
  v45 := Try.zeroValue138
  t46 := Try.underlying139
  a46 := Try.isAgg139
  z46 := Try.sizeOf139
  v46 := Try.zeroValue139
  t50 := Try.underlying115
  a50 := Try.isAgg115
  z50 := Try.sizeOf115
  v50 := Try.zeroValue115
  t53 := Try.underlying31
  a53 := Try.isAgg31
  z53 := Try.sizeOf31
  v53 := Try.zeroValue31
  t55 := Try.underlying146
  a55 := Try.isAgg146
  z55 := Try.sizeOf146
  v55 := Try.zeroValue146
  t66 := Try.underlying157
  a66 := Try.isAgg157
  z66 := Try.sizeOf157
  v66 := Try.zeroValue157
  t70 := Try.underlying161
  a70 := Try.isAgg161
  z70 := Try.sizeOf161
  v70 := Try.zeroValue161
  t76 := Try.underlying171
  a76 := Try.isAgg171
  z76 := Try.sizeOf171
  v76 := Try.zeroValue171
  t77 := Try.underlying172
  a77 := Try.isAgg172
  z77 := Try.sizeOf172
  v77 := Try.zeroValue172 }

/-- A row of the call's own of heads. -/
def OwnH (w : World) (r : Option Nat) (A : Option Addr) (n c : Nat) (hs : List Hdr) : Prop := Own w 23 1 r A n c (hs.map hdV) ∧ (A = none → r = none)
theorem infoH : (Try.prog.info? 23).map (fun i => (i.zero, i.size, i.bytes)) = some (some (.slice none 0 0), 1, 24) := by kernel_rfl
theorem info_partsH {P : Program} {t : TypeId} {z : Value} {s b : Nat} (h : (P.info? t).map (fun i => (i.zero, i.size, i.bytes)) = some (some z, s, b)) : ∃ i, P.info? t = some i ∧ i.zero = some z ∧ i.size = s ∧ i.bytes = b := by
  cases hi : P.info? t with
  | none => rw [hi] at h; simp at h
  | some i => rw [hi] at h; simp at h; exact ⟨i, rfl, h.1, h.2.1, h.2.2⟩
theorem none_of_ownH {w : World} {e : TypeId} {size n c : Nat} {r : Option Nat} {A : Option Addr} {xs : List Value} (h : Own w e size r A n c xs) : A = none → r = none := by
  intro hA
  cases r with
  | none => rfl
  | some g => obtain ⟨_, _, _, h4, _⟩ := h; rw [h4] at hA; cases hA
theorem one_H (hs : List Hdr) : ∀ u ∈ hs.map hdV, u.oneCell' = true := by
  intro u hu
  obtain ⟨x, _, rfl⟩ := List.mem_map.1 hu
  rfl
section
variable {w w' : World} {r : Option Nat} {A : Option Addr} {n c : Nat} {hs : List Hdr}
theorem OwnH.nil_ (w : World) (A : Option Addr) : OwnH w none A 0 0 [] := ⟨Own.nil_ w _ 1 A, fun _ => rfl⟩
theorem OwnH.len (h : OwnH w r A n c hs) : hs.length = n := by have := h.1.2.2.1; simpa using this
theorem OwnH.lt (h : OwnH w r A n c hs) : ∀ g, r = some g → g < w.heap.size := h.1.lt
theorem OwnH.on (h : OwnH w r A n c hs) (hb : Below w.heap.size w w') : OwnH w' r A n c hs := ⟨h.1.below hb h.lt, h.2⟩
theorem OwnH.kept {row : Option Nat} (h : OwnH w r A n c hs) (hg : w.grownBy w' row) (hne : r = none ∨ r ≠ row) : OwnH w' r A n c hs := ⟨h.1.kept hg hne, h.2⟩
theorem OwnH.alloc (h : OwnH w r A n c hs) (o : Obj) : OwnH (w.alloc o) r A n c hs := h.on ((Below.refl _ _).alloc (Nat.le_refl _) o)
end
/-- 'append(out, l)' at [][]api.Edge. -/
theorem appH1 {ops : Array Oper} {rest : List Oper} {o : Oper} {a : Act} {Q : Exit → Act → World → Prop} (hgd : o.guard = none) (s x : Operand)
    (ho : o.op = .call { callee := .builtin .append, args := #[s, x], argTypes := #[57, 57] }) (w : World)
    (r : Option Nat) (A : Option Addr) (n c : Nat) (hs : List Hdr) (hs0 : a.eval s = .slice A n c) (hown : OwnH w r A n c hs)
    (g : Nat) (y : Hdr) (hx : a.eval x = .slice (some ⟨g, 0, none⟩) 1 1) (hblk : Blk w g 23 #[hdV y]) (hb : n ≤ 8796093022)
    (h : ∀ r' A'' c'' w', OwnH w' r' A'' (n + 1) c'' (hs ++ [y]) → w.grownBy w' r → (r' = r ∨ ∀ g, r' = some g → w.heap.size ≤ g) → wpList Try.prog ops Q rest (a.put o.dst (.slice A'' (n + 1) c'')) w') : wpList Try.prog ops Q (o :: rest) a w := by
  obtain ⟨i0, hi, hz0, hz1, hz2⟩ := info_partsH infoH
  refine wpList_append_x w hgd s x _ ho 23 i0 _ 1 24 Try.underlying57 hi hz0 hz1 hz2 rfl (by decide) r A n c (hs.map hdV) hs0 hown.1 hown.2 w.heap.size _ 1 1 [hdV y] hx (Reads.oneBlk hblk) (by intro u hu; simp at hu; rw [hu]; rfl) (by unfold maxLen; omega) (by omega) ?_
  intro r' A'' c'' w' h2 h3 h4
  have e : hs.map hdV ++ [hdV y] = (hs ++ [y]).map hdV := by simp
  rw [e] at h2
  exact h r' A'' c'' w' ⟨h2, none_of_ownH h2⟩ h3 h4
set_option maxRecDepth 100000 in
theorem bcmp_any (gx gy nx cx ny cy : Nat) (kx ky : Int) (w : World) (hx : w.cell? ⟨gx, 0, none⟩ = some (.int .u32 kx)) (hy : w.cell? ⟨gy, 0, none⟩ = some (.int .u32 ky)) (h1 : 0 < nx) (h2 : 0 < ny) :
    Calls Try.prog 77 #[.slice (some ⟨gx, 0, none⟩) nx cx, .slice (some ⟨gy, 0, none⟩) ny cy] w fun e w' => e = .returned (.int .i64 (cmpN kx ky)) ∧ ∃ q, w' = w.drewN q := by
  have b1 : (0 : Int) < nx := by omega
  have b2 : (0 : Int) < ny := by omega
  go_enter Try.func77, Try.ntmps77
  go_wp2_with fail
  refine wp_region_held_drew (S := fun W => ∃ q, W = w.drewN q) (by kernel_rfl) ⟨1, rfl⟩ (fun hHeld => ?_)
  refine held_take 0 5 (.slice (some ⟨gx, 0, none⟩) nx cx) (by simp only [List.getElem?_toArray, List.getElem?_cons_zero]; rfl) rfl rfl (by kernel_rfl) (by kernel_rfl) (by kernel_rfl) (fun _ _ _ _ h => h) (by intro W hW; go_simp) hHeld ?_
  simp only [List.setIfInBounds_toArray, List.set_cons_zero, List.set_cons_succ]
  refine held_take 1 6 (.pointer (some ⟨gx, 0, none⟩)) (by simp only [List.getElem?_toArray, List.getElem?_cons_succ, List.getElem?_cons_zero]; rfl) rfl rfl (by kernel_rfl) (by kernel_rfl) (by kernel_rfl) (fun _ _ _ _ h => h) (by intro W hW; go_simp) hHeld ?_
  simp only [List.setIfInBounds_toArray, List.set_cons_zero, List.set_cons_succ]
  refine held_take 2 7 (.pointer (some ⟨gx, 0, none⟩)) (by simp only [List.getElem?_toArray, List.getElem?_cons_succ, List.getElem?_cons_zero]; rfl) rfl rfl (by kernel_rfl) (by kernel_rfl) (by kernel_rfl) (fun _ _ _ _ h => h) (by intro W hW; go_simp) hHeld ?_
  simp only [List.setIfInBounds_toArray, List.set_cons_zero, List.set_cons_succ]
  refine held_take 3 8 (.int .u32 kx) (by simp only [List.getElem?_toArray, List.getElem?_cons_succ, List.getElem?_cons_zero]; rfl) rfl rfl (by kernel_rfl) (by kernel_rfl) (by kernel_rfl) (fun _ _ _ _ h => h) (by intro W hW; obtain ⟨q, rfl⟩ := hW; go_simp) hHeld ?_
  simp only [List.setIfInBounds_toArray, List.set_cons_zero, List.set_cons_succ]
  refine held_take 4 9 (.slice (some ⟨gy, 0, none⟩) ny cy) (by simp only [List.getElem?_toArray, List.getElem?_cons_succ, List.getElem?_cons_zero]; rfl) rfl rfl (by kernel_rfl) (by kernel_rfl) (by kernel_rfl) (fun _ _ _ _ h => h) (by intro W hW; go_simp) hHeld ?_
  simp only [List.setIfInBounds_toArray, List.set_cons_zero, List.set_cons_succ]
  refine held_take 5 10 (.pointer (some ⟨gy, 0, none⟩)) (by simp only [List.getElem?_toArray, List.getElem?_cons_succ, List.getElem?_cons_zero]; rfl) rfl rfl (by kernel_rfl) (by kernel_rfl) (by kernel_rfl) (fun _ _ _ _ h => h) (by intro W hW; go_simp) hHeld ?_
  simp only [List.setIfInBounds_toArray, List.set_cons_zero, List.set_cons_succ]
  refine held_take 6 11 (.pointer (some ⟨gy, 0, none⟩)) (by simp only [List.getElem?_toArray, List.getElem?_cons_succ, List.getElem?_cons_zero]; rfl) rfl rfl (by kernel_rfl) (by kernel_rfl) (by kernel_rfl) (fun _ _ _ _ h => h) (by intro W hW; go_simp) hHeld ?_
  simp only [List.setIfInBounds_toArray, List.set_cons_zero, List.set_cons_succ]
  refine held_take 7 12 (.int .u32 ky) (by simp only [List.getElem?_toArray, List.getElem?_cons_succ, List.getElem?_cons_zero]; rfl) rfl rfl (by kernel_rfl) (by kernel_rfl) (by kernel_rfl) (fun _ _ _ _ h => h) (by intro W hW; obtain ⟨q, rfl⟩ := hW; go_simp) hHeld ?_
  simp only [List.setIfInBounds_toArray, List.set_cons_zero, List.set_cons_succ]
  refine held_call 8 13 78 #[.int .u32 kx, .int .u32 ky] (by simp only [List.getElem?_toArray, List.getElem?_cons_succ, List.getElem?_cons_zero]; rfl) rfl rfl (by kernel_rfl) (by intro W; go_simp) ?_
  refine (compareU kx ky _).mono ?_
  rintro e w3 ⟨rfl, rfl⟩
  refine ⟨_, rfl, hHeld, ?_⟩
  simp only [List.setIfInBounds_toArray, List.set_cons_zero, List.set_cons_succ]
  refine held_take 9 4 (.int .i64 (cmpN kx ky)) (by simp only [List.getElem?_toArray, List.getElem?_cons_succ, List.getElem?_cons_zero]; rfl) rfl rfl (by kernel_rfl) (by kernel_rfl) (by kernel_rfl) (fun _ _ _ _ h => h) (by intro W hW; go_simp) hHeld ?_
  simp only [List.setIfInBounds_toArray, List.set_cons_zero, List.set_cons_succ]
  refine wpAnyH_done (by kernel_rfl) ?_ _
  go_wp2_with fail
  go_ret
  exact ⟨rfl, hHeld⟩
theorem own_putG {α : Type} [Inhabited α] {enc : α → Value} {e : TypeId} {w : World} {g n c : Nat} {xs : List Value} (h : Own w e 1 (some g) (some ⟨g, 0, none⟩) n c xs) (zs : List α) (hz : zs.length = n) (k : Nat) (os : Array Obj) :
    Own (sortWorld enc w g 0 k zs.toArray os) e 1 (some g) (some ⟨g, 0, none⟩) n c (zs.map enc) := by
  obtain ⟨h1, h2, h3, h4, cur, h5, h6, h7⟩ := h
  have hgl : g < w.heap.size := by
    rcases Nat.lt_or_ge g w.heap.size with hlt | hge
    · exact hlt
    · rw [Array.getElem?_eq_none hge] at h5; cases h5
  have hblk : (sortWorld enc w g 0 k zs.toArray os).heap[g]? = some (.cells (putCells enc 0 zs.toArray cur) e (0, 0)) := by
    unfold sortWorld grow
    have : g < (putRow enc (Sort.ahead w k) g 0 zs.toArray).heap.size := by rw [size_putRow]; exact hgl
    simp only [Array.getElem?_append, this, if_true]
    simp [putRow, mapBlock, Array.getElem?_modify, h5, onCells]
  refine ⟨h1, h2, by simp; omega, rfl, _, hblk, by simpa [putCells] using h6, ?_⟩
  apply List.ext_getElem?
  intro j
  by_cases hj : j < n
  · have hjl : j < zs.length := by omega
    rw [List.getElem?_take_of_lt (by omega), Array.getElem?_toList, List.getElem?_map, List.getElem?_eq_getElem hjl]
    have hjc : j < cur.size := by omega
    simp [putCells, hjc, hjl]
  · rw [List.getElem?_eq_none (by simp; omega), List.getElem?_eq_none (by simp; omega)]
theorem grown_sort {α : Type} [Inhabited α] (enc : α → Value) (w : World) (g k : Nat) (d : Array α) (os : Array Obj) : w.grownBy (sortWorld enc w g 0 k d os) (some g) := by
  refine ⟨rfl, rfl, rfl, ?_, fun j hj hne => ?_⟩
  · unfold sortWorld grow
    simp [size_putRow]
  · unfold sortWorld grow
    have : j < (putRow enc (Sort.ahead w k) g 0 d).heap.size := by rw [size_putRow]; exact hj
    simp only [Array.getElem?_append, this, if_true]
    simp only [putRow, mapBlock, Array.getElem?_modify]
    have : ¬ g = j := fun e => hne (by rw [e])
    rw [if_neg this]; rfl
def hdOf (m : List (Int × Hdr)) (k : Int) : Hdr := (mget m k).getD (none, 0, 0)
/-- A row's first edge, in memory. -/
theorem RowsAt.first {w : World} {base : Nat} {m : List (Int × Hdr)} {rows : Int → List Edg} (h : RowsAt w base m rows) {k : Int} (hk : k ∈ mkeys m) (hf : ((rows k).map (·.1))[0]? = some k) :
    ∃ gk n c, hdOf m k = (some ⟨gk, 0, none⟩, n, c) ∧ 0 < n ∧ w.cell? ⟨gk, 0, none⟩ = some (.int .u32 k) := by
  obtain ⟨rs, h1, _, _⟩ := h
  cases hm : mget m k with
  | none => exact absurd hk (mget_none.1 hm)
  | some hd =>
    obtain ⟨ho, _⟩ := h1 k hd hm
    have hl := ho.len
    rw [List.getElem?_map] at hf
    obtain ⟨x, hx, hxk⟩ := Option.map_eq_some_iff.1 hf
    have hpos : 0 < hd.2.1 := by have := (List.getElem?_eq_some_iff.1 hx).1; omega
    obtain ⟨ad, y, e1, _, hy, _, hc, _⟩ := ho.rd.at_ hpos
    rw [hx] at hy
    injection hy with hy
    subst hy
    cases hr : rs k with
    | none =>
      rw [hr] at ho
      have := ho.1.1.cap0 rfl
      have := ho.1.1.1
      omega
    | some gk =>
      rw [hr] at ho
      have hA : hd.1 = some ⟨gk, 0, none⟩ := ho.1.1.2.2.2.1
      refine ⟨gk, hd.2.1, hd.2.2, ?_, hpos, ?_⟩
      · unfold hdOf; rw [hm]; exact Prod.ext hA rfl
      · rw [hA] at e1
        injection e1 with e1
        subst e1
        rw [← hxk]
        simpa [Addr.add] using hc
theorem hdOf_mem {w : World} {base : Nat} {m : List (Int × Hdr)} {rows : Int → List Edg} (h : RowsAt w base m rows) {k : Int} (hk : k ∈ mkeys m) : RdE w w.heap.size (hdOf m k).1 (hdOf m k).2.1 (hdOf m k).2.2 (rows k) := by
  obtain ⟨rs, h1, _, _⟩ := h
  cases hm : mget m k with
  | none => exact absurd hk (mget_none.1 hm)
  | some hd => unfold hdOf; rw [hm]; exact (h1 k hd hm).1.rd
set_option maxRecDepth 100000 in
theorem sortH (w : World) (r : Option Nat) (A : Option Addr) (n c : Nat) (base : Nat) (m : List (Int × Hdr)) (rows : Int → List Edg) (ks : List Int) (hO : OwnH w r A n c (ks.map (hdOf m))) (hR : RowsAt w base m rows)
    (hk : ∀ k ∈ ks, k ∈ mkeys m ∧ ((rows k).map (·.1))[0]? = some k) (hnd : ks.Nodup) (hn : n ≤ 1000000) :
    Calls Try.prog 76 #[.slice A n c, .func (.func 77) #[] #[]] w fun e w' => e = .returned (.tuple #[]) ∧ ∃ ks' : List Int, ks'.Perm ks ∧ ks'.Pairwise (· < ·) ∧ OwnH w' r A n c (ks'.map (hdOf m)) ∧ RowsAt w' base m rows ∧ w.grownBy w' r := by
  have hl := hO.len
  rw [List.length_map] at hl
  by_cases h0 : n = 0
  · subst h0
    have he : ks = [] := List.eq_nil_of_length_eq_zero hl
    subst he
    refine (AnyF.slices_SortFunc_none (P := Try.prog) (ρ := bsL_ren) { bsL with } A c (.func (.func 77) #[] #[]) w).mono ?_
    rintro e w' ⟨rfl, rfl⟩
    exact ⟨rfl, [], List.Perm.refl _, List.Pairwise.nil, hO, hR, World.grownBy.refl _ _⟩
  · cases r with
    | none => have := hO.1.cap0 rfl; have := hO.1.1; omega
    | some g =>
      obtain rfl : A = some ⟨g, 0, none⟩ := hO.1.2.2.2.1
      have hne : ks ≠ [] := by intro e; rw [e] at hl; simp at hl; omega
      haveI : Inhabited {k : Int // k ∈ ks} := ⟨⟨ks.head hne, List.head_mem hne⟩⟩
      have henc : ks.attach.map (fun k => hdV (hdOf m k.1)) = (ks.map (hdOf m)).map hdV := by
        rw [List.map_map]
        exact List.attach_map_val (f := fun k => hdV (hdOf m k))
      have hal : ks.attach.length = n := by rw [List.length_attach]; exact hl
      have hlt : ∀ x y : {k : Int // k ∈ ks}, ltOf (fun x y : {k : Int // k ∈ ks} => cmpN x.1 y.1) x y = decide (x.1 < y.1) := fun x y => by
        unfold ltOf cmpN
        by_cases h1 : x.1 < y.1
        · simp [h1]
        · by_cases h2 : y.1 < x.1 <;> simp [h1, h2]
      have hswo : SWO (ltOf (fun x y : {k : Int // k ∈ ks} => cmpN x.1 y.1)) := {
        irrefl := fun x => by rw [hlt]; simp
        trans := fun x y z h1 h2 => by rw [hlt] at *; simp at *; omega
        ntrans := fun x y z h1 h2 => by rw [hlt] at *; simp at *; omega }
      have hblk : ∀ cur : Array Value, w.heap[g]? ≠ some (.cells cur 39 (0, 0)) := fun cur hh => by
        obtain ⟨cur2, h2⟩ := hO.1.block rfl
        rw [hh] at h2
        injection h2 with h2
        injection h2 with _ h2
        revert h2; decide
      have hRW : ∀ w', w.grownBy w' (some g) → RowsAt w' base m rows := fun w' hg => hR.kept hg fun g' cur e hh => by injection e with e; subst e; exact hblk cur hh
      have eg : ∀ args w, (callFunc 77 args).run Try.prog w = .ok (.enter 77 args) w := enters_of Try.func77 (by kernel_rfl) rfl
      have hcell : ∀ j, j < n → ∃ k, ks.attach[j]? = some k ∧ w.cell? ⟨g, 0 + j, none⟩ = some (hdV (hdOf m k.1)) := fun j hj => by
        have hj' : j < ks.attach.length := by omega
        refine ⟨ks.attach[j], List.getElem?_eq_getElem hj', ?_⟩
        have hrd := (hO.1.reads).2 (by omega)
        obtain ⟨ad, e1, _, hc⟩ := hrd
        injection e1 with e1
        subst e1
        have e2 : ((ks.map (hdOf m)).map hdV)[j]? = some (hdV (hdOf m ks.attach[j].1)) := by
          rw [← henc, List.getElem?_map, List.getElem?_eq_getElem hj']; rfl
        have := hc j _ e2
        rw [Addr.add_lit, Nat.zero_add] at this
        rw [Nat.zero_add]; exact this
      have hH : Holds (fun k : {k : Int // k ∈ ks} => hdV (hdOf m k.1)) w g 0 ks.attach.toArray := fun j hj => by
        have hj' : j < n := by simpa [hal] using hj
        obtain ⟨k, e1, e2⟩ := hcell j hj'
        refine ⟨?_, ?_⟩
        · have : ks.attach.toArray[j]! = k := by
            rw [getElem!_pos ks.attach.toArray j hj]
            have h5 := (List.getElem?_eq_some_iff.1 e1).2
            simpa using h5
          rw [this]; exact e2
        · obtain ⟨cur, hh⟩ := hO.1.block rfl
          have hb : Blk w g 23 cur := hh
          exact hb.frozen _
      have hC := Any.slices_SortFunc_total bsL (fun k : {k : Int // k ∈ ks} => hdV (hdOf m k.1)) (fun _ => rfl) (fun x y => cmpN x.1 y.1) hswo 77 #[] g 0 c ks.attach.toArray w eg
        (fun mm os dk _ x y => by
          have hRx := hRW _ (grown_sort (fun k : {k : Int // k ∈ ks} => hdV (hdOf m k.1)) w g mm dk os)
          obtain ⟨gx, nx, cx, ex, px, qx⟩ := hRx.first (hk x.1 x.2).1 (hk x.1 x.2).2
          obtain ⟨gy, ny, cy, ey, py, qy⟩ := hRx.first (hk y.1 y.2).1 (hk y.1 y.2).2
          have ex2 : hdV (hdOf m x.1) = .slice (some ⟨gx, 0, none⟩) nx cx := by rw [ex]; rfl
          have ey2 : hdV (hdOf m y.1) = .slice (some ⟨gy, 0, none⟩) ny cy := by rw [ey]; rfl
          show Calls Try.prog 77 #[hdV (hdOf m x.1), hdV (hdOf m y.1)] _ _
          rw [ex2, ey2]
          refine (bcmp_any gx gy nx cx ny cy x.1 y.1 _ qx qy px py).mono ?_
          rintro e w' ⟨rfl, q, rfl⟩
          exact ⟨rfl, q, #[], by simp [grow]; rfl⟩)
        hH (hO.lt g rfl) (by simp [hal]; omega) (fun x y h1 h2 => by rw [hlt] at h1 h2; simp at h1 h2; exact Subtype.ext (by omega))
      rw [show ks.attach.toArray.size = n by simpa using hal] at hC
      refine hC.mono ?_
      rintro e w' ⟨rfl, q, os, rfl⟩
      obtain ⟨L, hL⟩ : ∃ L, (ks.attach.toArray.toList.mergeSort fun x y => !(ltOf (fun x y : {k : Int // k ∈ ks} => cmpN x.1 y.1)) y x) = L := ⟨_, rfl⟩
      have hLp : L.Perm ks.attach := by rw [← hL]; exact List.mergeSort_perm _ _
      have hLs : L.Pairwise fun x y => x.1 ≤ y.1 := by
        have := List.pairwise_mergeSort (le := fun x y : {k : Int // k ∈ ks} => !(ltOf (fun x y : {k : Int // k ∈ ks} => cmpN x.1 y.1)) y x) (fun a b c h1 h2 => by simp only [hlt] at *; simp at *; omega) (fun a b => by simp only [hlt]; simp; omega) ks.attach
        rw [show ks.attach.toArray.toList = ks.attach from rfl] at hL
        rw [hL] at this
        exact this.imp fun h => by simp only [hlt] at h; simpa using h
      have hperm : (L.map (·.1)).Perm ks := by
        have := hLp.map (·.1)
        rwa [show ks.attach.map (·.1) = ks from List.attach_map_subtype_val ks] at this
      have hnd2 : (L.map (·.1)).Nodup := hperm.nodup_iff.2 hnd
      rw [hL]
      have hown := own_putG (enc := fun k : {k : Int // k ∈ ks} => hdV (hdOf m k.1)) hO.1 L (by rw [hLp.length_eq]; exact hal) q os
      have hgs := grown_sort (fun k : {k : Int // k ∈ ks} => hdV (hdOf m k.1)) w g q L.toArray os
      refine ⟨rfl, L.map (·.1), hperm, ?_, ⟨?_, fun e => by cases e⟩, hRW _ hgs, hgs⟩
      · have h1 : (L.map (·.1)).Pairwise (· ≤ ·) := List.pairwise_map.2 hLs
        exact (h1.and hnd2).imp fun {a b} h => by obtain ⟨p1, p2⟩ := h; omega
      · rw [List.map_map, List.map_map]
        exact hown
/-- A [][]api.Edge that reads as a list of rows. -/
def RdEE (w : World) (B : Nat) (A : Option Addr) (n c : Nat) (ess : List (List Edg)) : Prop :=
  ∃ hs : List Hdr, Reads w B 1 A n (hs.map hdV) ∧ n ≤ c ∧ c ≤ 9223372036854775807 ∧ (A = none → c = 0) ∧ hs.length = ess.length ∧
    ∀ (j : Nat) (h : Hdr) (es : List Edg), hs[j]? = some h → ess[j]? = some es → RdE w B h.1 h.2.1 h.2.2 es
section
variable {w w' : World} {B B' n c : Nat} {A : Option Addr} {ess : List (List Edg)}
theorem RdEE.len (h : RdEE w B A n c ess) : ess.length = n := by obtain ⟨hs, h1, _, _, _, h2, _⟩ := h; have := h1.1; rw [List.length_map] at this; omega
theorem RdEE.bd (h : RdEE w B A n c ess) : n ≤ c ∧ c ≤ 9223372036854775807 := by obtain ⟨hs, _, h1, h2, _⟩ := h; exact ⟨h1, h2⟩
theorem RdEE.below (h : RdEE w B A n c ess) (hb : Below B w w') : RdEE w' B A n c ess := by
  obtain ⟨hs, h1, h2, h3, h4, h5, h6⟩ := h
  exact ⟨hs, h1.below hb, h2, h3, h4, h5, fun j h es a b => (h6 j h es a b).below hb⟩
theorem RdEE.more (h : RdEE w B A n c ess) (hB : B ≤ B') : RdEE w B' A n c ess := by
  obtain ⟨hs, h1, h2, h3, h4, h5, h6⟩ := h
  exact ⟨hs, h1.more hB, h2, h3, h4, h5, fun j h es a b => (h6 j h es a b).more hB⟩
theorem RdEE.drewN (h : RdEE w B A n c ess) (q : Nat) : RdEE (w.drewN q) B A n c ess := h
theorem RdEE.at_ {k : Nat} (h : RdEE w B A n c ess) (hk : k < n) :
    ∃ ad es A' n' c', A = some ad ∧ ad.block < B ∧ ess[k]? = some es ∧ w.cell? (ad.add k) = some (.slice A' n' c') ∧ RdE w B A' n' c' es := by
  have hl := h.len
  obtain ⟨hs, h1, h2, h3, h4, h5, h6⟩ := h
  obtain ⟨ad, e, hb, hc⟩ := h1.2 (by omega)
  have e1 : hs[k]? = some (hs[k]'(by omega)) := List.getElem?_eq_getElem (by omega)
  have e2 : ess[k]? = some (ess[k]'(by omega)) := List.getElem?_eq_getElem (by omega)
  refine ⟨ad, _, _, _, _, e, hb, e2, hc k _ (by rw [List.getElem?_map, e1]; rfl), h6 k _ _ e1 e2⟩
end
theorem OwnH.rdEE {w : World} {r : Option Nat} {A : Option Addr} {n c base : Nat} {m : List (Int × Hdr)} {rows : Int → List Edg} {ks : List Int} (h : OwnH w r A n c (ks.map (hdOf m))) (hR : RowsAt w base m rows) (hk : ∀ k ∈ ks, k ∈ mkeys m) : RdEE w w.heap.size A n c (ks.map rows) := by
  refine ⟨ks.map (hdOf m), h.1.reads, h.1.1, h.1.2.1, fun hA => h.1.cap0 (h.2 hA), by simp, fun j hd es a b => ?_⟩
  rw [List.getElem?_map] at a b
  obtain ⟨k, hk1, rfl⟩ := Option.map_eq_some_iff.1 a
  obtain ⟨k', hk2, rfl⟩ := Option.map_eq_some_iff.1 b
  rw [hk1] at hk2
  injection hk2 with hk2
  subst hk2
  exact hdOf_mem hR (hk k (List.mem_of_getElem? hk1))
end Go.Proofs.Ytklmckbpbloonaa
