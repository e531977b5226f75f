/- Proved here: the method less of graph.cost compares by cost, then by edges. -/
import Derived.Test.YtoeiongnjogpeaaPlainG
import Derived.Test.YtoeiongnjogpeaaChecked
namespace Go.Proofs.Ytoeiongnjogpeaa
open Go.RowKit
def ckV (v : CK) : Value := .agg #[.int .i64 (v.1 : Int), .int .i64 (v.2 : Int)]
set_option maxHeartbeats 2000000 in
theorem less_any (a b : CK) (w : World) : Calls Try.prog 126 #[ckV a, ckV b] w fun e w' => e = .returned (.bool (decide (ltC a b))) ∧ Below w.heap.size w w' := by
  obtain ⟨a1, a2⟩ := a
  obtain ⟨b1, b2⟩ := b
  have hcase : ((a1 < b1) ∧ Hid (ltC (a1, a2) (b1, b2))) ∨ (¬ a1 < b1 ∧ a1 = b1 ∧ a2 < b2 ∧ Hid (ltC (a1, a2) (b1, b2))) ∨ (¬ a1 < b1 ∧ a1 = b1 ∧ ¬ a2 < b2 ∧ Hid (¬ ltC (a1, a2) (b1, b2))) ∨ (¬ a1 < b1 ∧ a1 ≠ b1 ∧ Hid (¬ ltC (a1, a2) (b1, b2))) := by
    unfold Hid ltC; dsimp only; omega
  unfold ckV
  rcases hcase with ⟨h1, H⟩ | ⟨h1, h2, h3, H⟩ | ⟨h1, h2, h3, H⟩ | ⟨h1, h2, H⟩
  · go_enter Try.func126, Try.ntmps126
    go_wp2_with fail
    go_ret
    exact ⟨by rw [decide_eq_true H.out]; rfl, ((Below.refl _ _).alloc (Nat.le_refl _) _).alloc (by simp) _⟩
  · subst h2
    go_enter Try.func126, Try.ntmps126
    go_wp2_with fail
    go_ret
    exact ⟨by rw [decide_eq_true H.out]; rfl, ((Below.refl _ _).alloc (Nat.le_refl _) _).alloc (by simp) _⟩
  · subst h2
    go_enter Try.func126, Try.ntmps126
    go_wp2_with fail
    go_ret
    exact ⟨by rw [decide_eq_false H.out]; rfl, ((Below.refl _ _).alloc (Nat.le_refl _) _).alloc (by simp) _⟩
  · have h2' : ((a1 : Int) == (b1 : Int)) = false := by simp; omega
    have h2'' : (a1 == b1) = false := by simp; omega
    go_enter Try.func126, Try.ntmps126
    go_wp2_with fail
    go_ret
    exact ⟨by rw [decide_eq_false H.out]; rfl, ((Below.refl _ _).alloc (Nat.le_refl _) _).alloc (by simp) _⟩
end Go.Proofs.Ytoeiongnjogpeaa
