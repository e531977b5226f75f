/- The search of reach: plain. -/
import Derived.Test.YtambnjhopijkfaaVisit
import Derived.Test.YtambnjhopijkfaaFlowDef
namespace Go.Proofs.Ytambnjhopijkfaa
open Go.RowKit
/-- More can flow along edge j (forwards: b = false; backwards: b = true), from u to k. -/
def Res (l : List Edge) (f : List Int) (j : Nat) (b : Bool) (u k : Int) : Prop :=
  j < l.length ∧ if b then (edAt l j).dst = u ∧ (edAt l j).src = k ∧ 0 < numAt f j else (edAt l j).src = u ∧ (edAt l j).dst = k ∧ numAt f j < (edAt l j).cost
structure BFS (l : List Edge) (f : List Int) (s : Int) (m : Int → Option (Int × Bool)) (ord : List Int) : Prop where
  nodup : ord.Nodup
  keys : ∀ k, (m k).isSome = true ↔ k ∈ ord
  head : ∃ r, ord = s :: r
  step : ∀ p k, ord[p]? = some k → 0 < p → ∃ (j : Nat) (b : Bool) (u : Int), m k = some ((j : Int), b) ∧ Res l f j b u k ∧ u ∈ ord.take p
theorem BFS.start (l : List Edge) (f : List Int) (s : Int) (p : Int × Bool) : BFS l f s (updS (fun _ => none) s p) [s] :=
  ⟨by simp, fun k => by unfold updS; by_cases h : k = s <;> simp [h], ⟨[], rfl⟩, fun p k h h0 => by
    cases p with
    | zero => omega
    | succ p => simp at h⟩
theorem BFS.visit {l : List Edge} {f : List Int} {s : Int} {m : Int → Option (Int × Bool)} {ord : List Int} (h : BFS l f s m ord) {j : Nat} {b : Bool} {u k : Int} (hr : Res l f j b u k) (hu : u ∈ ord) :
    BFS l f s (mx m k ((j : Int), b)) (ox m ord k) ∧ k ∈ ox m ord k ∧ ord <+: ox m ord k := by
  unfold mx ox
  by_cases hk : (m k).isSome = true
  · rw [if_pos hk, if_pos hk]
    exact ⟨h, (h.keys k).1 hk, List.prefix_refl _⟩
  · rw [if_neg hk, if_neg hk]
    have hno : ¬ k ∈ ord := fun hh => hk ((h.keys k).2 hh)
    obtain ⟨r, hrr⟩ := h.head
    refine ⟨⟨?_, fun x => ?_, ⟨r ++ [k], by rw [hrr]; rfl⟩, fun p x hp h0 => ?_⟩, by simp, List.prefix_append _ _⟩
    · rw [List.nodup_append]
      exact ⟨h.nodup, by simp, fun a ha x hx => by simp at hx; subst hx; exact fun e => hno (e ▸ ha)⟩
    · unfold updS
      by_cases hx : x = k
      · subst hx; simp
      · simp only [List.mem_append, List.mem_singleton, hx, or_false]; exact h.keys x
    · rw [List.getElem?_append] at hp
      split at hp
      · rename_i hlt
        have hx : x ≠ k := fun e => hno (e ▸ List.mem_of_getElem? hp)
        obtain ⟨j', b', u', a1, a2, a3⟩ := h.step p x hp h0
        refine ⟨j', b', u', by unfold updS; rw [if_neg hx]; exact a1, a2, ?_⟩
        rw [List.take_append_of_le_length (by omega)]; exact a3
      · rename_i hge
        have hx : p = ord.length ∧ x = k := by
          have hpl : p - ord.length = 0 := by
            have := (List.getElem?_eq_some_iff.1 hp).1
            simp at this; omega
          rw [hpl] at hp
          simp at hp
          exact ⟨by omega, hp.symm⟩
        obtain ⟨rfl, rfl⟩ := hx
        refine ⟨j, b, u, by unfold updS; rw [if_pos rfl], hr, ?_⟩
        rw [List.take_append_of_le_length (Nat.le_refl _), List.take_of_length_le (Nat.le_refl _)]
        exact hu
/-- What leads on from u over the first j edges has been seen. -/
def Shut (l : List Edge) (f : List Int) (u : Int) (j : Nat) (ord : List Int) : Prop := ∀ i b k, i < j → Res l f i b u k → k ∈ ord
theorem Shut.more {l : List Edge} {f : List Int} {u : Int} {j : Nat} {a b : List Int} (h : Shut l f u j a) (hp : a <+: b) : Shut l f u j b := fun i c k hi hr => hp.subset (h i c k hi hr)
theorem Shut.succ {l : List Edge} {f : List Int} {u : Int} {j : Nat} {ord : List Int} (h : Shut l f u j ord) (h1 : (edAt l j).src = u → numAt f j < (edAt l j).cost → (edAt l j).dst ∈ ord) (h2 : (edAt l j).dst = u → 0 < numAt f j → (edAt l j).src ∈ ord) : Shut l f u (j + 1) ord := by
  intro i b k hi hr
  rcases Nat.lt_or_ge i j with hlt | hge
  · exact h i b k hlt hr
  · have : i = j := by omega
    subst this
    obtain ⟨_, hr⟩ := hr
    cases b
    · simp at hr; rw [← hr.2.1]; exact h1 hr.1 hr.2.2
    · simp at hr; rw [← hr.2.1]; exact h2 hr.1 hr.2.2
def ends (l : List Edge) : List Int := l.flatMap fun e => [e.src, e.dst]
theorem ends_length (l : List Edge) : (ends l).length = 2 * l.length := by
  unfold ends
  induction l with
  | nil => rfl
  | cons a l ih => simp only [List.flatMap_cons, List.length_append, List.length_cons, List.length_nil, ih]; omega
theorem ends_mem {l : List Edge} {j : Nat} (h : j < l.length) : (edAt l j).src ∈ ends l ∧ (edAt l j).dst ∈ ends l := by
  unfold ends
  exact ⟨List.mem_flatMap.2 ⟨_, edAt_mem h, by simp⟩, List.mem_flatMap.2 ⟨_, edAt_mem h, by simp⟩⟩
theorem BFS.length {l : List Edge} {f : List Int} {s : Int} {m : Int → Option (Int × Bool)} {ord : List Int} (h : BFS l f s m ord) : ord.length ≤ 2 * l.length + 1 := by
  have := IMap.nodup_le (es := s :: ends l) h.nodup (fun x hx => by
    obtain ⟨p, hp, rfl⟩ := List.mem_iff_getElem.1 hx
    cases p with
    | zero =>
      obtain ⟨r, hr⟩ := h.head
      subst hr; simp
    | succ p =>
      obtain ⟨j, b, u, _, ⟨hj, hr⟩, _⟩ := h.step (p + 1) _ (List.getElem?_eq_getElem hp) (by omega)
      have := ends_mem hj
      cases b
      · simp at hr; rw [← hr.2.1]; exact List.mem_cons_of_mem _ this.2
      · simp at hr; rw [← hr.2.1]; exact List.mem_cons_of_mem _ this.1)
  rw [List.length_cons, ends_length] at this
  exact this
end Go.Proofs.Ytambnjhopijkfaa
