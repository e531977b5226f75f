/- Proved here: the examples of chapter 11, plain, and the map that they use. No condition. -/
import Derived.Test.YtoeiongnjogpeaaWay
import Derived.Test.YtoeiongnjogpeaaRMap3
namespace Go.Proofs.Ytoeiongnjogpeaa
open Go.RowKit
def sampM : MapM := ⟨[⟨1, 1000⟩, ⟨2, 1500⟩, ⟨3, 2000⟩, ⟨4, 1400⟩], [⟨1, 1, 1, 2, 1000, 5000, 4, 20⟩, ⟨2, 1, 2, 3, 1000, 5000, 4, 20⟩], [⟨11, 1, 3, 2, 1, 1, 900⟩, ⟨12, 1, 2, 1, 1, 1, 800⟩, ⟨13, 1, 3, 1, 1, 1, 1700⟩, ⟨14, 1, 3, 4, 1, 1, 700⟩], [1]⟩
theorem sampOk : MapOk sampM := by
  refine ⟨by decide, by decide, by decide, by decide, by decide, up_of_adj (fun i hi => ?_), fun x hx => ?_, up_of_adj (fun i hi => ?_), fun x hx => ?_, up_of_adj (fun i hi => ?_), by decide, fun b hb => ?_, by decide⟩
  · have hi : i + 1 < 4 := hi
    rcases (show i = 0 ∨ i = 1 ∨ i = 2 by omega) with rfl | rfl | rfl <;> decide
  · simp only [sampM, List.mem_cons, List.not_mem_nil, or_false] at hx
    rcases hx with rfl | rfl
    · exact ⟨by decide, by decide, by decide, by decide, by decide, by decide, ⟨1, 1000⟩, ⟨2, 1500⟩, by decide, by decide, by decide⟩
    · exact ⟨by decide, by decide, by decide, by decide, by decide, by decide, ⟨2, 1500⟩, ⟨3, 2000⟩, by decide, by decide, by decide⟩
  · have hi : i + 1 < 2 := hi
    obtain rfl : i = 0 := by omega
    decide
  · simp only [sampM, List.mem_cons, List.not_mem_nil, or_false] at hx
    rcases hx with rfl | rfl | rfl | rfl
    · exact ⟨by decide, by decide, by decide, by decide, by decide, ⟨2, 1500⟩, ⟨3, 2000⟩, by decide, by decide, by decide⟩
    · exact ⟨by decide, by decide, by decide, by decide, by decide, ⟨1, 1000⟩, ⟨2, 1500⟩, by decide, by decide, by decide⟩
    · exact ⟨by decide, by decide, by decide, by decide, by decide, ⟨1, 1000⟩, ⟨3, 2000⟩, by decide, by decide, by decide⟩
    · exact ⟨by decide, by decide, by decide, by decide, by decide, ⟨4, 1400⟩, ⟨3, 2000⟩, by decide, by decide, by decide⟩
  · have hi : i + 1 < 4 := hi
    rcases (show i = 0 ∨ i = 1 ∨ i = 2 by omega) with rfl | rfl | rfl <;> decide
  · obtain rfl : b = 1 := by simpa [sampM] using hb
    exact ⟨⟨1, 1000⟩, by decide⟩
theorem samp_reach : Reached sampM [1, 2] [11, 12, 13, 14] [1, 2, 3, 4] := by
  refine ⟨by decide, by decide, by decide, fun T h1 h2 x hx => ?_⟩
  have t1 := h1 1 (by decide)
  have t2 := h2 ⟨1, 1, 2, 1000⟩ (by decide) t1
  have t3 := h2 ⟨2, 2, 3, 1000⟩ (by decide) t2
  have t4 := h2 ⟨14, 3, 4, 700⟩ (by decide) t3
  simp at hx
  rcases hx with rfl | rfl | rfl | rfl <;> assumption
theorem samp_reach1 : Reached sampM [2] [11, 12, 13, 14] [1] := by
  refine ⟨by decide, by decide, by decide, fun T h1 h2 x hx => ?_⟩
  simp at hx
  subst hx
  exact h1 1 (by decide)
theorem samp_reach3 : Reached sampM [1, 2] [11] [1, 2, 3] := by
  refine ⟨by decide, by decide, by decide, fun T h1 h2 x hx => ?_⟩
  have t1 := h1 1 (by decide)
  have t2 := h2 ⟨1, 1, 2, 1000⟩ (by decide) t1
  have t3 := h2 ⟨2, 2, 3, 1000⟩ (by decide) t2
  simp at hx
  rcases hx with rfl | rfl | rfl <;> assumption
theorem samp_reach4 : Reached sampM [1, 2] [11, 12] [1, 2, 3] := by
  refine ⟨by decide, by decide, by decide, fun T h1 h2 x hx => ?_⟩
  have t1 := h1 1 (by decide)
  have t2 := h2 ⟨1, 1, 2, 1000⟩ (by decide) t1
  have t3 := h2 ⟨2, 2, 3, 1000⟩ (by decide) t2
  simp at hx
  rcases hx with rfl | rfl | rfl <;> assumption
theorem samp_home : HomeS sampM [11, 12, 13, 14] [1, 2, 3] := by
  refine ⟨by decide, by decide, by decide, fun T h1 h2 x hx => ?_⟩
  have t1 := h1 1 (by decide)
  have t2 := h2 (turnE ⟨12, 2, 1, 800⟩) (by decide) t1
  have t3 := h2 (turnE ⟨13, 3, 1, 1700⟩) (by decide) t1
  simp at hx
  rcases hx with rfl | rfl | rfl <;> assumption
theorem samp_home1 : HomeS sampM [11] [1] := by
  refine ⟨by decide, by decide, by decide, fun T h1 h2 x hx => ?_⟩
  simp at hx
  subst hx
  exact h1 1 (by decide)
theorem samp_home2 : HomeS sampM [11, 12] [1, 2, 3] := by
  refine ⟨by decide, by decide, by decide, fun T h1 h2 x hx => ?_⟩
  have t1 := h1 1 (by decide)
  have t2 := h2 (turnE ⟨12, 2, 1, 800⟩) (by decide) t1
  have t3 := h2 (turnE ⟨11, 3, 2, 900⟩) (by decide) t2
  simp at hx
  rcases hx with rfl | rfl | rfl <;> assumption
theorem samp_str : StrS sampM [1, 2] [11, 12, 13, 14] [4] := ⟨_, _, samp_reach, samp_home, by decide⟩
theorem samp_needs : NeedsS sampM [1, 2] [11, 12] 12 [2, 3] := ⟨[2, 3], [], ⟨_, _, samp_reach3, samp_home1, by decide⟩, ⟨_, _, samp_reach4, samp_home2, by decide⟩, by decide⟩
theorem samp_feeds : FeedsS sampM [1, 2] [11, 12] 14 true := ⟨_, samp_reach4, by decide⟩
theorem samp_feeds0 : FeedsS sampM [1, 2] [11, 12, 13, 14] 15 false := by
  show (match findRun sampM.runs 15 with
    | none => false = false
    | some x => ∃ ss, Reached sampM [1, 2] [11, 12, 13, 14] ss ∧ false = decide (x.src ∈ ss))
  rfl
def bW : Int → Option CK := fun u => if u = 1 then some (0, 0) else if u = 2 then some (800, 1) else if u = 3 then some (1700, 1) else none
def bV : Int → Option CK := fun u => if u = 1 then some (0, 0) else if u = 2 then some (800, 1) else if u = 3 then some (1700, 2) else none
theorem bW_best : Best (downL sampM.runs [11, 12, 13, 14]) 1 bW := by
  have w2 : Walk (downL sampM.runs [11, 12, 13, 14]) 1 2 (800, 1) := Walk.cons ⟨12, 2, 1, 800⟩ (0, 0) (by decide) Walk.nil
  have w3 : Walk (downL sampM.runs [11, 12, 13, 14]) 1 3 (1700, 1) := Walk.cons ⟨13, 3, 1, 1700⟩ (0, 0) (by decide) Walk.nil
  refine best_of ⟨_, rfl, leC_refl _⟩ (fun u v h => ?_) (fun e he => ?_)
  · unfold bW at h
    repeat' split at h
    all_goals first | (cases h; subst_vars; first | exact Walk.nil | assumption) | cases h
  · have he : e ∈ ([⟨11, 3, 2, 900⟩, ⟨12, 2, 1, 800⟩, ⟨13, 3, 1, 1700⟩, ⟨14, 3, 4, 700⟩] : List Edge) := he
    simp only [List.mem_cons, List.not_mem_nil, or_false] at he
    rcases he with rfl | rfl | rfl | rfl <;> (intro v hv; simp [bW] at hv; first | (subst hv; exact ⟨_, rfl, by decide⟩) | done)
theorem bV_best : Best (downL sampM.runs [11, 12, 14]) 1 bV := by
  have w2 : Walk (downL sampM.runs [11, 12, 14]) 1 2 (800, 1) := Walk.cons ⟨12, 2, 1, 800⟩ (0, 0) (by decide) Walk.nil
  have w3 : Walk (downL sampM.runs [11, 12, 14]) 1 3 (1700, 2) := Walk.cons ⟨11, 3, 2, 900⟩ (800, 1) (by decide) w2
  refine best_of ⟨_, rfl, leC_refl _⟩ (fun u v h => ?_) (fun e he => ?_)
  · unfold bV at h
    repeat' split at h
    all_goals first | (cases h; subst_vars; first | exact Walk.nil | assumption) | cases h
  · have he : e ∈ ([⟨11, 3, 2, 900⟩, ⟨12, 2, 1, 800⟩, ⟨14, 3, 4, 700⟩] : List Edge) := he
    simp only [List.mem_cons, List.not_mem_nil, or_false] at he
    rcases he with rfl | rfl | rfl <;> (intro v hv; simp [bV] at hv; first | (subst hv; exact ⟨_, rfl, by decide⟩) | done)
theorem samp_way1 : WayS sampM [11, 12, 13, 14] 3 ([13], 1700, true) := by
  have h : ShortR (downL sampM.runs [11, 12, 13, 14]) 3 1 [13] 1700 true := by
    refine ⟨bW, bW_best, .inr ⟨(1700, 1), rfl, ?_, rfl, rfl⟩⟩
    exact PathR.cons 3 ⟨13, 3, 1, 1700⟩ [] (by decide) (by decide) PathR.nil
  exact WaySt.snoc [] 1 _ _ _ _ WaySt.nil h
theorem samp_way2 : WayS sampM [11, 12, 14] 3 ([11, 12], 1700, true) := by
  have h : ShortR (downL sampM.runs [11, 12, 14]) 3 1 [11, 12] 1700 true := by
    refine ⟨bV, bV_best, .inr ⟨(1700, 2), rfl, ?_, rfl, rfl⟩⟩
    refine PathR.cons 3 ⟨11, 3, 2, 900⟩ [12] (by decide) (by decide) ?_
    exact PathR.cons 2 ⟨12, 2, 1, 800⟩ [] (by decide) (by decide) PathR.nil
  exact WaySt.snoc [] 1 _ _ _ _ WaySt.nil h
theorem samp_way3 : WayS sampM [11, 12, 13, 14] 4 ([], 0, false) := by
  have h : ShortR (downL sampM.runs [11, 12, 13, 14]) 4 1 [] 0 false := ⟨bW, bW_best, .inl ⟨rfl, rfl, rfl, rfl⟩⟩
  exact WaySt.snoc [] 1 _ _ _ _ WaySt.nil h
end Go.Proofs.Ytoeiongnjogpeaa
