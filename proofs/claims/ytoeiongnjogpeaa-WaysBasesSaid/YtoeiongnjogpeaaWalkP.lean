/- Plain words: following a path of edges by their numbers. -/
import Derived.Test.YtoeiongnjogpeaaTurnP
import Derived.Test.YtoeiongnjogpeaaPlainG
namespace Go.Proofs.Ytoeiongnjogpeaa
open Go.RowKit
def findE (l : List Edge) (i : Int) : Option Edge := l.find? (fun e => decide (e.id = i))
theorem find_at {l : List Edge} {p : Edge → Bool} {k : Nat} (hk : k < l.length) (hp : p (edAt l k) = true) (hno : ∀ i, i < k → p (edAt l i) = false) : l.find? p = some (edAt l k) := by
  cases hf : l.find? p with
  | none =>
    rw [List.find?_eq_none] at hf
    exact absurd hp (hf _ (edAt_mem hk))
  | some e =>
    obtain ⟨j, hj, he, hpe, hmin⟩ := find_idx hf
    rcases Nat.lt_trichotomy j k with h | h | h
    · have := hno j h
      rw [he, hpe] at this; cases this
    · rw [← he, h]
    · have := hmin k h
      rw [hp] at this; cases this
theorem find_no {l : List Edge} {p : Edge → Bool} (hno : ∀ i, i < l.length → p (edAt l i) = false) : l.find? p = none := by
  rw [List.find?_eq_none]
  intro e he
  obtain ⟨j, hj, rfl⟩ := mem_edAt he
  rw [hno j hj]; simp
def walkF (l : List Edge) : List Int → Int → Int → Option (Int × Int)
  | [], n, x => some (n, x)
  | i :: ids, n, x => match findE l i with
    | none => none
    | some e => if e.src = x then walkF l ids (n + e.cost) e.dst else none
theorem walkF_cons (l : List Edge) (i : Int) (ids : List Int) (n x : Int) : walkF l (i :: ids) n x = (match findE l i with
    | none => none
    | some e => if e.src = x then walkF l ids (n + e.cost) e.dst else none) := rfl
def walkR (l : List Edge) (ids : List Int) (f t : Int) : Int × Bool := match walkF l ids 0 f with
  | none => (0, false)
  | some (n, x) => (n, x == t)
theorem findE_id {l : List Edge} (hr : Right l) {e : Edge} (he : e ∈ l) : findE l e.id = some e := by
  obtain ⟨k, hk, rfl⟩ := mem_edAt he
  exact find_at hk (by simp) (fun i hi => decide_eq_false (hr.ids i k hi hk))
/-- A best path, followed. -/
theorem PathR.follow {l : List Edge} (hr : Right l) {b : Int → Option CK} {t : Int} (hb : Best l t b) {u : Int} {ids : List Int} (h : PathR l b t u ids) : ∀ (v : CK), b u = some v → ids.length = v.2 ∧ ∀ n : Int, walkF l ids n u = some (n + v.1, t) := by
  induction h with
  | nil =>
    intro v hv
    rw [hb.zero] at hv
    cases hv
    exact ⟨rfl, fun n => by simp [walkF]⟩
  | cons u e ids hne hf _ ih =>
    intro v hv
    have hg := List.find?_some hf
    have hm := List.mem_of_find?_eq_some hf
    unfold goodB at hg
    rw [Bool.and_eq_true] at hg
    obtain ⟨h1, h2⟩ := hg
    cases hd : b e.dst with
    | none => rw [hd] at h2; simp at h2
    | some x =>
      rw [hd] at h2
      simp only [decide_eq_true_eq] at h1 h2
      rw [hv] at h2
      have hvx := Option.some.inj h2
      obtain ⟨i1, i2⟩ := ih x hd
      have hok := hr.ok e hm
      unfold EdgeOk at hok
      refine ⟨by rw [hvx]; simp [addC, i1], fun n => ?_⟩
      unfold walkF
      rw [findE_id hr hm]
      dsimp only
      rw [if_pos h1, i2, hvx]
      simp only [addC, Option.some.injEq, Prod.mk.injEq, and_true]
      omega
/-- What is followed is a way. -/
theorem follow_walk {l : List Edge} (hr : Right l) {t : Int} : ∀ (ids : List Int) (n u m : Int), walkF l ids n u = some (m, t) → ∃ v : CK, Walk l t u v ∧ m = n + v.1 ∧ v.2 = ids.length
  | [], n, u, m, h => by
    simp only [walkF, Option.some.injEq, Prod.mk.injEq] at h
    obtain ⟨rfl, rfl⟩ := h
    exact ⟨(0, 0), Walk.nil, by simp, rfl⟩
  | i :: ids, n, u, m, h => by
    unfold walkF at h
    cases hf : findE l i with
    | none => rw [hf] at h; cases h
    | some e =>
      rw [hf] at h
      dsimp only at h
      have hm : e ∈ l := List.mem_of_find?_eq_some hf
      have hok := hr.ok e hm
      unfold EdgeOk at hok
      by_cases hs : e.src = u
      · rw [if_pos hs] at h
        obtain ⟨v, hv, h1, h2⟩ := follow_walk hr ids _ _ _ h
        refine ⟨addC e v, hs ▸ Walk.cons e v hm hv, ?_, by simp [addC, h2]⟩
        simp only [addC]
        omega
      · rw [if_neg hs] at h; cases h
theorem ShortR.iff_walk {l : List Edge} {a b : Int} {x : List Int} {n : Int} {ok : Bool} (h : ShortR l a b x n ok) : ok = true ↔ ∃ v, Walk l b a v := by
  obtain ⟨B, hB, h⟩ := h
  rcases h with ⟨h1, _, _, rfl⟩ | ⟨v, h1, _, _, rfl⟩
  · refine ⟨(fun h => by cases h), fun ⟨v, hv⟩ => ?_⟩
    obtain ⟨z, hz, _⟩ := hB.least _ _ hv
    rw [h1] at hz; cases hz
  · exact ⟨fun _ => ⟨v, hB.sound _ _ h1⟩, fun _ => rfl⟩
theorem RS5.iff_walk {l : List Edge} {a b : Int} {s : List Int} (h : RS5 l [a] s) : b ∈ s ↔ ∃ v, Walk l b a v := by
  constructor
  · refine h.sound (fun z => ∃ v, Walk l z a v) (fun y hy => ?_) (fun e he hv => ?_) b
    · simp at hy; subst hy; exact ⟨_, Walk.nil⟩
    · obtain ⟨v, hv⟩ := hv
      have w1 := hv.turn
      have w2 := Walk.cons (l := l.map turnE) (turnE e) v (List.mem_map.2 ⟨e, he, rfl⟩) w1
      have w3 := w2.turn
      rw [turn_turn] at w3
      exact ⟨_, w3⟩
  · rintro ⟨v, hv⟩
    have key : ∀ {u : Int} {v : CK}, Walk l b u v → u ∈ s → b ∈ s := by
      intro u v hw
      induction hw with
      | nil => exact id
      | cons e v he _ ih => exact fun hu => ih (h.closed e he hu)
    exact key hv (h.sub a (by simp))
theorem RS5.back_iff {l : List Edge} {a b : Int} {s : List Int} (h : RS5 (l.map turnE) [b] s) : a ∈ s ↔ ∃ v, Walk l b a v := by
  rw [h.iff_walk]
  constructor
  · rintro ⟨v, hv⟩
    have := hv.turn
    rw [turn_turn] at this
    exact ⟨v, this⟩
  · rintro ⟨v, hv⟩
    exact ⟨v, hv.turn⟩
end Go.Proofs.Ytoeiongnjogpeaa
