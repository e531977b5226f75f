/- Proved here, in plain terms: the edges of the least cut are in order, their capacities add up to the greatest flow, and without them t cannot be reached. -/
import Derived.Test.YtambnjhopijkfaaMore
import Derived.Test.YtambnjhopijkfaaBounds
import Derived.Test.YtambnjhopijkfaaCut
import Derived.Test.YtambnjhopijkfaaWithout
namespace Go.Proofs.Ytambnjhopijkfaa
open Go.RowKit
def costAt (l : List Edge) (k : Int) : Int := (edAt l k.toNat).cost
def idAt (l : List Edge) (k : Int) : Int := (edAt l k.toNat).id
theorem cutTo_step (l : List Edge) (T : Int → Bool) (n : Nat) : cutTo l T (n + 1) = cutTo l T n ++ if T (edAt l n).src && !T (edAt l n).dst then [(n : Int)] else [] := cutOf_take l T n
theorem cutTo_mem (l : List Edge) (T : Int → Bool) : ∀ n, ∀ x ∈ cutTo l T n, ∃ k : Nat, x = (k : Int) ∧ k < n ∧ T (edAt l k).src = true ∧ T (edAt l k).dst = false
  | 0, x, h => by simp [cutTo] at h
  | n + 1, x, h => by
    rw [cutTo_step] at h
    rcases List.mem_append.1 h with h | h
    · obtain ⟨k, h1, h2, h3⟩ := cutTo_mem l T n x h
      exact ⟨k, h1, by omega, h3⟩
    · split at h
      · rename_i hc
        simp at h hc
        exact ⟨n, h, by omega, hc⟩
      · simp at h
theorem cutTo_has (l : List Edge) (T : Int → Bool) : ∀ n k, k < n → T (edAt l k).src = true → T (edAt l k).dst = false → (k : Int) ∈ cutTo l T n
  | 0, k, h, _, _ => by omega
  | n + 1, k, h, h1, h2 => by
    rw [cutTo_step, List.mem_append]
    rcases Nat.lt_or_ge k n with hlt | hge
    · exact .inl (cutTo_has l T n k hlt h1 h2)
    · obtain rfl : k = n := by omega
      right
      rw [if_pos (by simp [h1, h2])]
      simp
theorem cutTo_up (l : List Edge) (T : Int → Bool) : ∀ n, (cutTo l T n).Pairwise (· < ·)
  | 0 => by simp [cutTo]
  | n + 1 => by
    rw [cutTo_step, List.pairwise_append]
    refine ⟨cutTo_up l T n, by split <;> simp, fun a ha b hb => ?_⟩
    obtain ⟨k, rfl, hk, _⟩ := cutTo_mem l T n a ha
    split at hb
    · simp at hb; omega
    · simp at hb
theorem cutTo_sum (l : List Edge) (T : Int → Bool) : ∀ n, n ≤ l.length → ((cutTo l T n).map (costAt l)).sum = capOf T (l.take n)
  | 0, _ => by simp [cutTo, capOf]
  | n + 1, h => by
    have ih := cutTo_sum l T n (by omega)
    rw [cutTo_step, capOf_take T (by omega), List.map_append, List.sum_append, ih]
    congr 1
    split
    · simp [costAt]
    · simp
theorem sum_bound (g : Int → Int) : ∀ C : List Int, (∀ x ∈ C, 0 ≤ g x ∧ g x ≤ 1000000) → 0 ≤ (C.map g).sum ∧ (C.map g).sum ≤ 1000000 * (C.length : Int)
  | [], _ => by simp
  | a :: C, h => by
    have ih := sum_bound g C (fun x hx => h x (by simp [hx]))
    have h0 := h a (by simp)
    simp only [List.map_cons, List.sum_cons, List.length_cons]
    omega
theorem pairwise_at {C : List Int} (h : C.Pairwise (· < ·)) {i : Nat} (hi : i + 1 < C.length) : numAt C i < numAt C (i + 1) := by
  have h1 := List.pairwise_iff_getElem.1 h i (i + 1) (by omega) hi (by omega)
  simpa [numAt, hi, (by omega : i < C.length)] using h1
theorem cut_shut {l : List Edge} {f : List Int} {s t : Int} {S : List Int} (h : MaxF l f s t S) : ∀ e ∈ withoutL l ((cutL l s t).map (idAt l)), e.src ∈ S → e.dst ∈ S := by
  intro e he hs
  unfold withoutL at he
  rw [List.mem_filter] at he
  obtain ⟨hel, hno⟩ := he
  simp only [Bool.not_eq_true', decide_eq_false_iff_not] at hno
  obtain ⟨k, hk, rfl⟩ := mem_edAt hel
  rcases Classical.em ((edAt l k).dst ∈ S) with h' | h'
  · exact h'
  · exfalso
    apply hno
    have hc : cutL l s t = cutTo l (inS S) l.length := cutL_of h
    rw [hc, List.mem_map]
    exact ⟨(k : Int), cutTo_has l (inS S) _ k hk (by simp [inS, hs]) (by simp [inS, h']), by simp [idAt]⟩
end Go.Proofs.Ytambnjhopijkfaa
