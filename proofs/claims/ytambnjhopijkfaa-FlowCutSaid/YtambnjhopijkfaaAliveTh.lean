/- The examples of the chapter: plain. -/
import Derived.Test.YtambnjhopijkfaaMaxCut
import Derived.Test.YtambnjhopijkfaaRefC
namespace Go.Proofs.Ytambnjhopijkfaa
open Go.RowKit
theorem right_sample : Right sample := ⟨by decide, by
  intro e he
  simp [sample] at he
  rcases he with rfl | rfl | rfl | rfl | rfl <;> simp [EdgeOk], by
  intro i j h1 h2
  have : j = 1 ∨ j = 2 ∨ j = 3 ∨ j = 4 := by simp [sample] at h2; omega
  have hi : i = 0 ∨ i = 1 ∨ i = 2 ∨ i = 3 := by simp [sample] at h2; omega
  rcases this with rfl | rfl | rfl | rfl <;> rcases hi with rfl | rfl | rfl | rfl <;> first | omega | decide⟩
theorem five {P : Nat → Prop} (h0 : P 0) (h1 : P 1) (h2 : P 2) (h3 : P 3) (h4 : P 4) : ∀ i, i < sample.length → P i := by
  intro i hi
  have : i = 0 ∨ i = 1 ∨ i = 2 ∨ i = 3 ∨ i = 4 := by simp [sample] at hi; omega
  rcases this with rfl | rfl | rfl | rfl | rfl <;> assumption
theorem five' {j : Nat} (hi : j < sample.length) : j = 0 ∨ j = 1 ∨ j = 2 ∨ j = 3 ∨ j = 4 := by simp [sample] at hi; omega
theorem flow14 : IsFlow sample [3, 2, 2, 1, 4] 1 4 := ⟨rfl, five (by decide) (by decide) (by decide) (by decide) (by decide), by
  intro k h1 h4
  simp only [net, sample]
  split <;> split <;> split <;> split <;> omega⟩
theorem mf14 : MaxF sample [3, 2, 2, 1, 4] 1 4 [1] := ⟨flow14, by simp, by simp, by
  intro j b u k hu hr
  simp at hu
  subst hu
  obtain ⟨hj, hr⟩ := hr
  rcases five' hj with rfl | rfl | rfl | rfl | rfl <;> cases b <;> simp [sample, edAt, numAt] at hr, by
  intro T h1 h2 k hk
  simp at hk
  subst hk
  exact h1⟩
theorem mf41 : MaxF sample (zeros 5) 4 1 [4] := ⟨(zeros_flow sample 4 1 right_sample).1, by simp, by simp, by
  intro j b u k hu hr
  simp at hu
  subst hu
  obtain ⟨hj, hr⟩ := hr
  rcases five' hj with rfl | rfl | rfl | rfl | rfl <;> cases b <;> simp [sample, edAt, numAt, zeros] at hr, by
  intro T h1 h2 k hk
  simp at hk
  subst hk
  exact h1⟩
theorem mf19 : MaxF sample (zeros 5) 1 9 [1, 2, 3, 4] := ⟨(zeros_flow sample 1 9 right_sample).1, by simp, by simp, by
  intro j b u k hu hr
  obtain ⟨hj, hr⟩ := hr
  simp at hu
  rcases five' hj with rfl | rfl | rfl | rfl | rfl <;> cases b <;> simp [sample, edAt, numAt, zeros] at hr ⊢ <;> omega, by
  intro T h1 h2 k hk
  have t2 : T 2 := h2 0 false 1 2 h1 ⟨by decide, by decide⟩
  have t3 : T 3 := h2 1 false 1 3 h1 ⟨by decide, by decide⟩
  have t4 : T 4 := h2 3 false 2 4 t2 ⟨by decide, by decide⟩
  simp at hk
  rcases hk with rfl | rfl | rfl | rfl <;> assumption⟩
theorem max14 : maxV sample 1 4 = 5 := by rw [maxV_of mf14]; decide
theorem max41 : maxV sample 4 1 = 0 := by rw [maxV_of mf41]; decide
theorem max19 : maxV sample 1 9 = 0 := by rw [maxV_of mf19]; decide
theorem cut14 : cutL sample 1 4 = [0, 1] := by rw [cutL_of mf14]; decide
theorem cut41 : cutL sample 4 1 = [] := by rw [cutL_of mf41]; decide
theorem cut19 : cutL sample 1 9 = [] := by rw [cutL_of mf19]; decide
theorem valid1 : validB sample [3, 2, 2, 1, 4] 1 4 = true := validB_true flow14
theorem valid2 : validB sample [3, 2, 2, 1, 3] 1 4 = false := validB_false fun h => by
  have := h.bal 3 (by decide) (by decide)
  revert this
  decide
theorem valid3 : validB sample [3, 2, 2, 1, 1] 1 3 = false := validB_false fun h => by
  have := h.bal 4 (by decide) (by decide)
  revert this
  decide
theorem value1 : wrap64 (net sample [3, 2, 2, 1, 4] 1) = 5 := by
  rw [show net sample [3, 2, 2, 1, 4] 1 = 5 by decide]
  simp [wrap64]
end Go.Proofs.Ytambnjhopijkfaa
