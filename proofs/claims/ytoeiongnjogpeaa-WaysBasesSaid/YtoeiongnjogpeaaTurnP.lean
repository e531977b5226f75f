/- Plain words on edges turned round. -/
import Derived.Test.YtoeiongnjogpeaaPlainG
import Derived.Test.YtoeiongnjogpeaaGReach
import Derived.Test.YtoeiongnjogpeaaCloneE
namespace Go.Proofs.Ytoeiongnjogpeaa
open Go.RowKit
theorem addC_turn (e : Edge) (v : CK) : addC (turnE e) v = addC e v := rfl
theorem addC_comm (e f : Edge) (v : CK) : addC e (addC f v) = addC f (addC e v) := by
  refine Prod.ext ?_ rfl
  show v.1 + f.cost.toNat + e.cost.toNat = v.1 + e.cost.toNat + f.cost.toNat
  omega
theorem Walk.snoc {l : List Edge} {m u : Int} {v : CK} (h : Walk l m u v) {e : Edge} (he : e ∈ l) (hm : e.src = m) : Walk l e.dst u (addC e v) := by
  induction h with
  | nil => rw [← hm]; exact Walk.cons e (0, 0) he Walk.nil
  | cons f v hf _ ih => rw [addC_comm]; exact Walk.cons f _ hf ih
theorem Walk.turn {l : List Edge} {t u : Int} {v : CK} (h : Walk l t u v) : Walk (l.map turnE) u t v := by
  induction h with
  | nil => exact Walk.nil
  | cons e v he _ ih => exact Walk.snoc (e := turnE e) ih (List.mem_map.2 ⟨e, he, rfl⟩) rfl
theorem turn_turn (l : List Edge) : (l.map turnE).map turnE = l := by
  rw [List.map_map]
  conv => rhs; rw [← List.map_id l]
  rfl
theorem edAt_map (l : List Edge) (f : Edge → Edge) (i : Nat) (h : i < l.length) : edAt (l.map f) i = f (edAt l i) := by
  have h1 := edAt_eq (l := l.map f) (k := i) (by simpa using h)
  rw [List.getElem?_map, edAt_eq h] at h1
  exact (Option.some.inj h1).symm
theorem Right.turn {l : List Edge} (h : Right l) : Right (l.map turnE) := by
  refine ⟨by simpa using h.len, fun e he => ?_, fun i j hij hj => ?_⟩
  · obtain ⟨x, hx, rfl⟩ := List.mem_map.1 he
    have := h.ok x hx
    unfold EdgeOk at this ⊢
    unfold turnE; dsimp only; omega
  · have hj' : j < l.length := by simpa using hj
    rw [edAt_map _ _ _ (by omega), edAt_map _ _ _ hj']
    exact h.ids i j hij hj'
theorem ShortR.turn {l : List Edge} {a b : Int} {x y : List Int} {n m : Int} {ok is : Bool} (h : ShortR l a b x n ok) (k : ShortR (l.map turnE) b a y m is) : n = m ∧ ok = is := by
  obtain ⟨B, hB, h⟩ := h
  obtain ⟨C, hC, k⟩ := k
  have key : B a = C b := by
    cases hb : B a with
    | none =>
      cases hc : C b with
      | none => rfl
      | some v =>
        have w := (hC.sound b v hc).turn
        rw [turn_turn] at w
        obtain ⟨z, hz, _⟩ := hB.least _ _ w
        rw [hb] at hz; cases hz
    | some v =>
      obtain ⟨z, hz, h1⟩ := hC.least _ _ (hB.sound a v hb).turn
      have w := (hC.sound b z hz).turn
      rw [turn_turn] at w
      obtain ⟨z2, hz2, h2⟩ := hB.least _ _ w
      rw [hb] at hz2; cases hz2
      rw [hz, leC_antisymm h1 h2]
  rcases h with ⟨h1, _, rfl, rfl⟩ | ⟨v, h1, _, rfl, rfl⟩ <;> rcases k with ⟨k1, _, rfl, rfl⟩ | ⟨v', k1, _, rfl, rfl⟩
  · exact ⟨rfl, rfl⟩
  · rw [h1, k1] at key; cases key
  · rw [h1, k1] at key; cases key
  · rw [h1, k1] at key; cases key; exact ⟨rfl, rfl⟩
theorem RS5.congr {l : List Edge} {f g s : List Int} (h : RS5 l f s) (hfg : ∀ x, x ∈ g ↔ x ∈ f) : RS5 l g s :=
  ⟨h.sorted, fun x hx => h.sub x ((hfg x).1 hx), h.closed, fun T h1 h2 => h.sound T (fun y hy => h1 y ((hfg y).2 hy)) h2⟩
theorem RS5.two {l : List Edge} {a b : Int} {x y s : List Int} (hx : RS5 l [a] x) (hy : RS5 l [b] y) (hs : RS5 l [a, b] s) : (∀ z ∈ s, z ∈ x ∨ z ∈ y) ∧ ∀ z ∈ x, z ∈ s := by
  refine ⟨hs.sound (fun z => z ∈ x ∨ z ∈ y) (fun z hz => ?_) (fun e he h => ?_), hx.sound (· ∈ s) (fun z hz => ?_) hs.closed⟩
  · simp at hz
    rcases hz with rfl | rfl
    · exact .inl (hx.sub _ (by simp))
    · exact .inr (hy.sub _ (by simp))
  · exact h.imp (hx.closed e he) (hy.closed e he)
  · simp at hz
    subst hz
    exact hs.sub _ (by simp)
theorem sorted_step {s : List Int} (h : s.Pairwise (· < ·)) {j : Nat} (hj : j + 1 < s.length) : numAt s j < numAt s (j + 1) := by
  have h1 := List.pairwise_iff_getElem.1 h j (j + 1) (by omega) hj (by omega)
  have e1 := numAt_eq (l := s) (k := j) (by omega)
  have e2 := numAt_eq hj
  rw [List.getElem?_eq_getElem (by omega)] at e1 e2
  rw [← Option.some.inj e1, ← Option.some.inj e2]
  exact h1
theorem numAt_mem {l : List Int} {k : Nat} (h : k < l.length) : numAt l k ∈ l := List.mem_of_getElem? (numAt_eq h)
end Go.Proofs.Ytoeiongnjogpeaa
