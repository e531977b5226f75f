/- Proved here: a slice of the call's own, of edges, reads as edges. Condition: at most 1000 of them. -/
import Derived.Test.YtmnkgcnhmkggkaaOwn
namespace Go.Proofs.Ytmnkgcnhmkggkaa
open Go.RowKit
theorem edAt_succ (e : Edge) (l : List Edge) (i : Nat) : edAt (e :: l) (i + 1) = edAt l i := by simp [edAt]
def edgeCells (e : Edge) : List Value := [.int .i64 e.id, .int .i64 e.src, .int .i64 e.dst, .int .i64 e.cost]
theorem flat_at : ∀ (l : List Edge) (i j : Nat), i < l.length → j < 4 → (l.flatMap edgeCells)[i * 4 + j]? = (edgeCells (edAt l i))[j]?
  | [], i, _, h, _ => by simp at h
  | e :: l, 0, j, _, hj => by
    rw [List.flatMap_cons, List.getElem?_append_left (by simp [edgeCells]; omega)]
    simp [edAt]
  | e :: l, i + 1, j, h, hj => by
    rw [List.flatMap_cons, List.getElem?_append_right (by simp [edgeCells]; omega), edAt_succ, ← flat_at l i j (by simpa using h) hj]
    congr 1
    simp [edgeCells]; omega
theorem flat_len (l : List Edge) : (l.flatMap edgeCells).length = l.length * 4 := by
  induction l with
  | nil => rfl
  | cons e l ih => rw [List.flatMap_cons, List.length_append, ih]; simp [edgeCells]; omega
/-- A slice of the call's own, of edges, reads as edges. -/
theorem OwnS.rdE {W : World} {B : Nat} {A : Option Addr} {c : Nat} {l : List Edge} (h : OwnS 42 4 W B (.slice A l.length c) l.length (l.flatMap edgeCells)) (hm : l.length ≤ 1000) : RdE W A l := by
  refine ⟨by omega, fun i hi => ?_⟩
  have hs : i * 4 + 4 ≤ (l.flatMap edgeCells).length := by rw [flat_len]; omega
  obtain ⟨g, o, rfl, h0, _⟩ := h.cell (flat_at l i 0 hi (by omega))
  obtain ⟨g1, o1, e1, h1, _⟩ := h.cell (flat_at l i 1 hi (by omega))
  obtain ⟨g2, o2, e2, h2, _⟩ := h.cell (flat_at l i 2 hi (by omega))
  obtain ⟨g3, o3, e3, h3, _⟩ := h.cell (flat_at l i 3 hi (by omega))
  simp only [Option.some.injEq, Addr.mk.injEq, and_true] at e1 e2 e3
  obtain ⟨rfl, rfl⟩ := e1
  obtain ⟨rfl, rfl⟩ := e2
  obtain ⟨rfl, rfl⟩ := e3
  refine ⟨_, rfl, ?_, ?_, ?_, ?_⟩
  · rw [Addr.add_lit]; exact h0
  · rw [Addr.add_lit, Nat.add_assoc]; exact h1
  · rw [Addr.add_lit, Nat.add_assoc]; exact h2
  · rw [Addr.add_lit, Nat.add_assoc]; exact h3
end Go.Proofs.Ytmnkgcnhmkggkaa
