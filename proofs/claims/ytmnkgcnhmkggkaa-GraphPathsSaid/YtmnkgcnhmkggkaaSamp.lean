/- Proved here: the examples of chapter 05, plain. -/
import Derived.Test.YtmnkgcnhmkggkaaShort
import Derived.Test.YtmnkgcnhmkggkaaTurned
import Derived.Test.YtmnkgcnhmkggkaaWithout
namespace Go.Proofs.Ytmnkgcnhmkggkaa
open Go.RowKit
def sampleL : List Edge := [⟨11, 1, 2, 5⟩, ⟨12, 2, 3, 5⟩, ⟨13, 1, 3, 10⟩, ⟨14, 3, 4, 1⟩, ⟨15, 5, 1, 0⟩]
def sampleT : List Edge := [⟨11, 1, 2, 5⟩, ⟨12, 2, 3, 5⟩, ⟨14, 3, 4, 1⟩, ⟨15, 5, 1, 0⟩]
theorem samp_err : errL sampleL = 0 := by decide
theorem samp_right : Right sampleL := errL_zero samp_err
theorem sampT_right : Right sampleT := errL_zero (by decide)
theorem samp_loop_right : Right (sampleL ++ [⟨16, 4, 2, 1⟩]) := errL_zero (by decide)
theorem samp_twice : errL (sampleL ++ [⟨11, 1, 2, 5⟩]) = 7 := by decide
theorem samp_order : orderL sampleL = ([5, 1, 2, 3, 4], 0) := by decide
theorem samp_loop : orderL (sampleL ++ [⟨16, 4, 2, 1⟩]) = ([], 16) := by decide
theorem samp_without : withoutL sampleL [13] = sampleT := by decide
theorem sorted_ext : ∀ {a b : List Int}, a.Pairwise (· < ·) → b.Pairwise (· < ·) → (∀ x, x ∈ a ↔ x ∈ b) → a = b
  | [], [], _, _, _ => rfl
  | [], y :: b, _, _, h => by have := (h y).2 (by simp); simp at this
  | x :: a, [], _, _, h => by have := (h x).1 (by simp); simp at this
  | x :: a, y :: b, ha, hb, h => by
    rw [List.pairwise_cons] at ha hb
    have hxy : x = y := by
      have h1 := (h x).1 (by simp)
      have h2 := (h y).2 (by simp)
      rcases List.mem_cons.1 h1 with h1 | h1
      · exact h1
      · rcases List.mem_cons.1 h2 with h2 | h2
        · exact h2.symm
        · have := ha.1 y h2
          have := hb.1 x h1
          omega
    subst hxy
    rw [sorted_ext ha.2 hb.2 fun z => ?_]
    have hz := h z
    constructor
    · intro hm
      rcases List.mem_cons.1 (hz.1 (by simp [hm])) with h1 | h1
      · have := ha.1 z hm; omega
      · exact h1
    · intro hm
      rcases List.mem_cons.1 (hz.2 (by simp [hm])) with h1 | h1
      · have := hb.1 z hm; omega
      · exact h1
theorem RS5.uniq {l : List Edge} {f a b : List Int} (h : RS5 l f a) (k : RS5 l f b) : a = b :=
  sorted_ext h.sorted k.sorted fun x => ⟨fun hx => h.sound (· ∈ b) k.sub k.closed x hx, fun hx => k.sound (· ∈ a) h.sub h.closed x hx⟩
theorem samp_reach2 : RS5 sampleL [2] [2, 3, 4] := by
  refine ⟨by decide, by decide, by decide, fun T h1 h2 x hx => ?_⟩
  have t2 := h1 2 (by simp)
  have t3 := h2 ⟨12, 2, 3, 5⟩ (by decide) t2
  have t4 := h2 ⟨14, 3, 4, 1⟩ (by decide) t3
  simp at hx
  rcases hx with rfl | rfl | rfl <;> assumption
theorem samp_reach9 : RS5 sampleL [9] [9] := by
  refine ⟨by decide, by decide, by decide, fun T h1 h2 x hx => ?_⟩
  simp at hx
  subst hx
  exact h1 9 (by simp)
theorem samp_back2 : RS5 (sampleL.map turnE) [2] [1, 2, 5] := by
  refine ⟨by decide, by decide, by decide, fun T h1 h2 x hx => ?_⟩
  have t2 := h1 2 (by simp)
  have t1 := h2 (turnE ⟨11, 1, 2, 5⟩) (by decide) t2
  have t5 := h2 (turnE ⟨15, 5, 1, 0⟩) (by decide) t1
  simp at hx
  rcases hx with rfl | rfl | rfl <;> assumption
def bS : Int → Option CK := fun u => if u = 4 then some (0, 0) else if u = 3 then some (1, 1) else if u = 1 then some (11, 2) else if u = 2 then some (6, 2) else if u = 5 then some (11, 3) else none
def bT : Int → Option CK := fun u => if u = 4 then some (0, 0) else if u = 3 then some (1, 1) else if u = 1 then some (11, 3) else if u = 2 then some (6, 2) else if u = 5 then some (11, 4) else none
def bN : Int → Option CK := fun u => if u = 1 then some (0, 0) else if u = 5 then some (0, 1) else none
theorem bS_best : Best sampleL 4 bS := by
  have w3 : Walk sampleL 4 3 (1, 1) := Walk.cons ⟨14, 3, 4, 1⟩ (0, 0) (by decide) Walk.nil
  have w2 : Walk sampleL 4 2 (6, 2) := Walk.cons ⟨12, 2, 3, 5⟩ (1, 1) (by decide) w3
  have w1 : Walk sampleL 4 1 (11, 2) := Walk.cons ⟨13, 1, 3, 10⟩ (1, 1) (by decide) w3
  have w5 : Walk sampleL 4 5 (11, 3) := Walk.cons ⟨15, 5, 1, 0⟩ (11, 2) (by decide) w1
  refine best_of ⟨_, rfl, leC_refl _⟩ (fun u v h => ?_) (fun e he => ?_)
  · unfold bS at h
    repeat' split at h
    all_goals first | (cases h; subst_vars; first | exact Walk.nil | assumption) | cases h
  · simp only [sampleL, List.mem_cons, List.not_mem_nil, or_false] at he
    rcases he with rfl | rfl | rfl | rfl | rfl <;> (intro v hv; simp [bS] at hv; subst hv; exact ⟨_, rfl, by decide⟩)
theorem bT_best : Best sampleT 4 bT := by
  have w3 : Walk sampleT 4 3 (1, 1) := Walk.cons ⟨14, 3, 4, 1⟩ (0, 0) (by decide) Walk.nil
  have w2 : Walk sampleT 4 2 (6, 2) := Walk.cons ⟨12, 2, 3, 5⟩ (1, 1) (by decide) w3
  have w1 : Walk sampleT 4 1 (11, 3) := Walk.cons ⟨11, 1, 2, 5⟩ (6, 2) (by decide) w2
  have w5 : Walk sampleT 4 5 (11, 4) := Walk.cons ⟨15, 5, 1, 0⟩ (11, 3) (by decide) w1
  refine best_of ⟨_, rfl, leC_refl _⟩ (fun u v h => ?_) (fun e he => ?_)
  · unfold bT at h
    repeat' split at h
    all_goals first | (cases h; subst_vars; first | exact Walk.nil | assumption) | cases h
  · simp only [sampleT, List.mem_cons, List.not_mem_nil, or_false] at he
    rcases he with rfl | rfl | rfl | rfl <;> (intro v hv; simp [bT] at hv; subst hv; exact ⟨_, rfl, by decide⟩)
theorem bN_best : Best sampleL 1 bN := by
  have w5 : Walk sampleL 1 5 (0, 1) := Walk.cons ⟨15, 5, 1, 0⟩ (0, 0) (by decide) Walk.nil
  refine best_of ⟨_, rfl, leC_refl _⟩ (fun u v h => ?_) (fun e he => ?_)
  · unfold bN at h
    repeat' split at h
    all_goals first | (cases h; subst_vars; first | exact Walk.nil | assumption) | cases h
  · simp only [sampleL, List.mem_cons, List.not_mem_nil, or_false] at he
    rcases he with rfl | rfl | rfl | rfl | rfl <;> (intro v hv; simp [bN] at hv; first | (subst hv; exact ⟨_, rfl, by decide⟩) | done)
theorem samp_short14 : ShortR sampleL 1 4 [13, 14] 11 true := by
  refine ⟨bS, bS_best, .inr ⟨(11, 2), rfl, ?_, rfl, rfl⟩⟩
  refine PathR.cons 1 ⟨13, 1, 3, 10⟩ [14] (by decide) (by decide) ?_
  exact PathR.cons 3 ⟨14, 3, 4, 1⟩ [] (by decide) (by decide) PathR.nil
theorem samp_short41 : ShortR sampleL 4 1 [] 0 false := ⟨bN, bN_best, .inl ⟨rfl, rfl, rfl, rfl⟩⟩
theorem sampT_short : ShortR sampleT 1 4 [11, 12, 14] 11 true := by
  refine ⟨bT, bT_best, .inr ⟨(11, 3), rfl, ?_, rfl, rfl⟩⟩
  refine PathR.cons 1 ⟨11, 1, 2, 5⟩ [12, 14] (by decide) (by decide) ?_
  refine PathR.cons 2 ⟨12, 2, 3, 5⟩ [14] (by decide) (by decide) ?_
  exact PathR.cons 3 ⟨14, 3, 4, 1⟩ [] (by decide) (by decide) PathR.nil
theorem sample_any (w : World) : Calls Try.prog 30 #[] w fun e w' => e = .returned (.slice (some ⟨w.heap.size, 0, none⟩) 5 5) ∧ OwnS 42 4 w' w.heap.size (.slice (some ⟨w.heap.size, 0, none⟩) 5 5) 5 (sampleL.flatMap edgeCells) ∧ Below w.heap.size w w' := by
  go_enter Try.func30, Try.ntmps30
  go_wp2_with fail
  go_ret
  refine ⟨rfl, ⟨rfl, _, 5, rfl, Nat.le_refl _, by simp [maxLen], .inr ⟨w.heap.size, 0, (sampleL.flatMap edgeCells).toArray, rfl, Nat.le_refl _, heap_alloc_new _ _, by simp [sampleL, edgeCells], fun j u hj => by simpa using hj⟩⟩, box_below _ _⟩
end Go.Proofs.Ytmnkgcnhmkggkaa
