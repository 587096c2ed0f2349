/- Walks: layer 18, what all of some rows have. -/
import Derived.Test.YtklmckbpbloonaaUnionD
namespace Go.Proofs.Ytklmckbpbloonaa
open Go.RowKit

theorem RdUU.tail {w : World} {B n c : Nat} {ad : Addr} {xss : List (List Int)} (h : RdUU w B (some ad) n c xss) (hn : 0 < n) : RdUU w B (some (ad.add 1)) (n - 1) (c - 1) (xss.drop 1) := by
  obtain ⟨hs, h1, h2, h3, h4, h5, h6⟩ := h
  refine ⟨hs.drop 1, ⟨?_, fun hn1 => ?_⟩, by omega, by omega, (fun e => by cases e), by simp [h5], fun j q xs a b => h6 (j + 1) q xs (by rw [List.getElem?_drop] at a; rwa [Nat.add_comm] at a) (by rw [List.getElem?_drop] at b; rwa [Nat.add_comm] at b)⟩
  · have := h1.1
    simp at this ⊢
    omega
  · obtain ⟨a, e, hb, hc⟩ := h1.2 hn
    cases e
    refine ⟨_, rfl, by rw [block_of_add]; exact hb, fun j u hu => ?_⟩
    rw [add_of_add]
    refine hc (1 + j) u ?_
    rw [List.map_drop, List.getElem?_drop] at hu
    exact hu
theorem RdUU.cut1 {w : World} {B n c : Nat} {A : Option Addr} {xss : List (List Int)} (h : RdUU w B A n c xss) (hn : 0 < n) : RdUU w B (if c = 1 then A else A.map (·.add 1)) (n - 1) (c - 1) (xss.drop 1) := by
  have hbd := h.bd
  have hl := h.len
  cases A with
  | none => obtain ⟨_, _, _, _, h4, _⟩ := h; have := h4 rfl; omega
  | some ad =>
    by_cases hc : c = 1
    · rw [if_pos hc]
      have hn1 : n = 1 := by omega
      have : xss.drop 1 = [] := List.drop_eq_nil_of_le (by omega)
      rw [this]
      exact ⟨[], ⟨by simp; omega, fun h0 => by omega⟩, by omega, by omega, (fun e => by cases e), rfl, fun j q xs a => by simp at a⟩
    · rw [if_neg hc]; exact h.tail hn
end Go.Proofs.Ytklmckbpbloonaa
