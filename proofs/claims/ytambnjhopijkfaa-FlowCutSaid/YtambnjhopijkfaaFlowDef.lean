/- Flows: plain. -/
import Derived.Test.YtambnjhopijkfaaRefB
namespace Go.Proofs.Ytambnjhopijkfaa
open Go.RowKit
structure IsFlow (l : List Edge) (f : List Int) (s t : Int) : Prop where
  len : f.length = l.length
  cap : ∀ i, i < l.length → 0 ≤ numAt f i ∧ numAt f i ≤ (edAt l i).cost
  bal : ∀ k, k ≠ s → k ≠ t → net l f k = 0
noncomputable def validB (l : List Edge) (f : List Int) (s t : Int) : Bool := @decide (IsFlow l f s t) (Classical.propDecidable _)
theorem validB_true {l : List Edge} {f : List Int} {s t : Int} (h : IsFlow l f s t) : validB l f s t = true := by unfold validB; simp [h]
theorem validB_false {l : List Edge} {f : List Int} {s t : Int} (h : ¬ IsFlow l f s t) : validB l f s t = false := by unfold validB; simp [h]
theorem validB_iff {l : List Edge} {f : List Int} {s t : Int} : validB l f s t = true ↔ IsFlow l f s t := by unfold validB; simp
theorem edAt_cons_succ (e : Edge) (l : List Edge) (i : Nat) : edAt (e :: l) (i + 1) = edAt l i := by simp [edAt]
theorem numAt_cons_succ (e : Int) (l : List Int) (i : Nat) : numAt (e :: l) (i + 1) = numAt l i := by simp [numAt]
theorem net_bound (k : Int) : ∀ (l : List Edge) (f : List Int), (∀ i, i < l.length → 0 ≤ numAt f i ∧ numAt f i ≤ 1000000) → - (1000000 * (l.length : Int)) ≤ net l f k ∧ net l f k ≤ 1000000 * (l.length : Int)
  | [], _, _ => by simp [net]
  | _ :: l, [], _ => by simp only [net, List.length_cons]; omega
  | a :: l, y :: f, h => by
    have ih := net_bound k l f (fun i hi => by have := h (i + 1) (by simpa using hi); rwa [numAt_cons_succ] at this)
    have h0 := h 0 (by simp)
    simp only [numAt, List.getD_cons_zero] at h0
    simp only [net, List.length_cons]
    split <;> split <;> omega
theorem right_cost {l : List Edge} (h : Right l) {i : Nat} (hi : i < l.length) : 0 ≤ (edAt l i).cost ∧ (edAt l i).cost ≤ 1000000 := by
  have := h.ok _ (edAt_mem hi)
  exact ⟨this.2.2.2.2.1, this.2.2.2.2.2⟩
theorem net_wrap {l : List Edge} {f : List Int} (hr : Right l) (hc : ∀ i, i < l.length → 0 ≤ numAt f i ∧ numAt f i ≤ (edAt l i).cost) (k : Int) : wrap64 (net l f k) = net l f k := by
  have := net_bound k l f (fun i hi => ⟨(hc i hi).1, Int.le_trans (hc i hi).2 (right_cost hr hi).2⟩)
  have := hr.len
  unfold wrap64
  omega
theorem IsFlow.wrap {l : List Edge} {f : List Int} {s t : Int} (h : IsFlow l f s t) (hr : Right l) (k : Int) : wrap64 (net l f k) = net l f k := net_wrap hr h.cap k
theorem side (x s t v : Int) : ((x != s) = false ∧ Hid (x ≠ s → x ≠ t → v = 0)) ∨ ((x != s) = true ∧ (x != t) = false ∧ Hid (x ≠ s → x ≠ t → v = 0)) ∨
    ((x != s) = true ∧ (x != t) = true ∧ (v != 0) = false ∧ Hid (x ≠ s → x ≠ t → v = 0)) ∨ ((x != s) = true ∧ (x != t) = true ∧ (v != 0) = true ∧ Hid (¬ (x ≠ s → x ≠ t → v = 0))) := by
  simp only [Hid, bne_iff_ne, bne_eq_false_iff_eq, Decidable.not_imp_iff_and_not]
  by_cases h1 : x = s
  · left; exact ⟨h1, fun h => absurd h1 h⟩
  · by_cases h2 : x = t
    · right; left; exact ⟨h1, h2, fun _ h => absurd h2 h⟩
    · by_cases h3 : v = 0
      · right; right; left; exact ⟨h1, h2, h3, fun _ _ => h3⟩
      · right; right; right; exact ⟨h1, h2, h3, h1, h2, h3⟩
theorem side2 (x s t v : Int) : ((v != 0) = false ∧ Hid (x ≠ s → x ≠ t → v = 0)) ∨ ((v != 0) = true ∧ (x != s) = false ∧ Hid (x ≠ s → x ≠ t → v = 0)) ∨
    ((v != 0) = true ∧ (x != s) = true ∧ (x != t) = false ∧ Hid (x ≠ s → x ≠ t → v = 0)) ∨ ((v != 0) = true ∧ (x != s) = true ∧ (x != t) = true ∧ Hid (¬ (x ≠ s → x ≠ t → v = 0))) := by
  simp only [Hid, bne_iff_ne, bne_eq_false_iff_eq, Decidable.not_imp_iff_and_not]
  by_cases h3 : v = 0
  · left; exact ⟨h3, fun _ _ => h3⟩
  · by_cases h1 : x = s
    · right; left; exact ⟨h3, h1, fun h => absurd h1 h⟩
    · by_cases h2 : x = t
      · right; right; left; exact ⟨h3, h1, h2, fun _ h => absurd h2 h⟩
      · right; right; right; exact ⟨h3, h1, h2, h1, h2, h3⟩
end Go.Proofs.Ytambnjhopijkfaa
