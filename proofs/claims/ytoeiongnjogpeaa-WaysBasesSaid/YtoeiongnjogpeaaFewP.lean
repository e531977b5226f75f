/- Plain words on fewer edges. -/
import Derived.Test.YtoeiongnjogpeaaPlainG
import Derived.Test.YtoeiongnjogpeaaGReach
namespace Go.Proofs.Ytoeiongnjogpeaa
open Go.RowKit
theorem Walk.mono {l m : List Edge} (hs : ∀ e ∈ l, e ∈ m) {t u : Int} {v : CK} (h : Walk l t u v) : Walk m t u v := by
  induction h with
  | nil => exact Walk.nil
  | cons e v he _ ih => exact Walk.cons e v (hs e he) ih
theorem ShortR.fewer {l m : List Edge} (hs : ∀ e ∈ l, e ∈ m) {a b : Int} {x y : List Int} {n k : Int} {ok is : Bool} (h : ShortR l a b x n ok) (g : ShortR m a b y k is) (hok : ok = true) : is = true ∧ k ≤ n := by
  obtain ⟨B, hB, h⟩ := h
  obtain ⟨C, hC, g⟩ := g
  rcases h with ⟨_, _, _, rfl⟩ | ⟨v, h1, _, rfl, rfl⟩
  · cases hok
  · obtain ⟨z, hz, hle⟩ := hC.least _ _ ((hB.sound a v h1).mono hs)
    rcases g with ⟨g1, _, _, rfl⟩ | ⟨v', g1, _, rfl, rfl⟩
    · rw [hz] at g1; cases g1
    · rw [hz] at g1; cases g1
      rw [leC_iff] at hle
      exact ⟨rfl, by omega⟩
theorem RS5.fewer {l m : List Edge} (hs : ∀ e ∈ l, e ∈ m) {f x y : List Int} (h : RS5 l f x) (k : RS5 m f y) : ∀ z ∈ x, z ∈ y :=
  h.sound (· ∈ y) k.sub (fun e he => k.closed e (hs e he))
theorem rdI_pair {W W' : World} {a b : Int} {g : Nat} {t : TypeId} (h : W = W'.alloc (.cells #[.int .i64 a, .int .i64 b] t)) (hg : g = W'.heap.size) : RdI W (some ⟨g, 0, none⟩) [a, b] := by
  subst h
  refine ⟨by simp, fun i hi => ⟨_, rfl, ?_⟩⟩
  refine box_cells W' #[.int .i64 a, .int .i64 b] t g hg i _ ?_
  have : i = 0 ∨ i = 1 := by simp at hi; omega
  rcases this with rfl | rfl <;> rfl
end Go.Proofs.Ytoeiongnjogpeaa
