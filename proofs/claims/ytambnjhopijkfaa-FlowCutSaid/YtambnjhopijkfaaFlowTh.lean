/- The greatest flow and the least cut: plain. -/
import Derived.Test.YtambnjhopijkfaaFind
namespace Go.Proofs.Ytambnjhopijkfaa
open Go.RowKit
def nub : List Int → List Int
  | [] => []
  | a :: r => if a ∈ nub r then nub r else a :: nub r
theorem mem_nub (x : Int) : ∀ l : List Int, x ∈ nub l ↔ x ∈ l
  | [] => Iff.rfl
  | a :: r => by
    have ih := mem_nub x r
    unfold nub
    split
    · rename_i h
      rw [ih, List.mem_cons]
      constructor
      · exact .inr
      · rintro (rfl | h')
        · exact (mem_nub _ r).1 h
        · exact h'
    · rw [List.mem_cons, List.mem_cons, ih]
theorem nub_nodup : ∀ l : List Int, (nub l).Nodup
  | [] => by simp [nub]
  | a :: r => by
    unfold nub
    split
    · exact nub_nodup r
    · rename_i h
      exact List.nodup_cons.2 ⟨h, nub_nodup r⟩
def sumN (N : List Int) (l : List Edge) (f : List Int) : Int := (N.map (net l f)).sum
theorem sum_ind (x y : Int) : ∀ N : List Int, N.Nodup → (N.map (fun k => if y = k then x else 0)).sum = if y ∈ N then x else 0
  | [], _ => by simp
  | a :: N, h => by
    obtain ⟨h1, h2⟩ := List.nodup_cons.1 h
    have ih := sum_ind x y N h2
    rw [List.map_cons, List.sum_cons, ih]
    by_cases e : y = a
    · subst e
      simp [h1]
    · simp [e]
theorem sum_add (F G : Int → Int) : ∀ N : List Int, (N.map (fun k => F k + G k)).sum = (N.map F).sum + (N.map G).sum
  | [] => rfl
  | a :: N => by simp only [List.map_cons, List.sum_cons, sum_add F G N]; omega
theorem sum_neg (F : Int → Int) : ∀ N : List Int, (N.map (fun k => - F k)).sum = - (N.map F).sum
  | [] => rfl
  | a :: N => by simp only [List.map_cons, List.sum_cons, sum_neg F N]; omega
theorem sumN_cons (N : List Int) (hN : N.Nodup) (e : Edge) (x : Int) (l : List Edge) (f : List Int) : sumN N (e :: l) (x :: f) = sumN N l f + (if e.src ∈ N then x else 0) - (if e.dst ∈ N then x else 0) := by
  have h1 := sum_ind x e.src N hN
  have h2 := sum_ind x e.dst N hN
  have : (N.map (net (e :: l) (x :: f))) = N.map (fun k => (net l f k + (if e.src = k then x else 0)) + - (if e.dst = k then x else 0)) := by
    apply List.map_congr_left
    intro k _
    simp only [net]
    omega
  unfold sumN
  rw [this, sum_add, sum_add, sum_neg, h1, h2]
  omega
/-- What flows out of a set, less what flows into it. -/
def outF (T : Int → Bool) : List Edge → List Int → Int
  | e :: l, x :: f => outF T l f + (if T e.src then x else 0) - (if T e.dst then x else 0)
  | _, _ => 0
def capOf (T : Int → Bool) : List Edge → Int
  | e :: l => capOf T l + if T e.src && !T e.dst then e.cost else 0
  | [] => 0
theorem sum_zero (F : Int → Int) : ∀ N : List Int, (∀ k ∈ N, F k = 0) → (N.map F).sum = 0
  | [], _ => rfl
  | a :: N, h => by simp [h a (by simp), sum_zero F N (fun k hk => h k (by simp [hk]))]
theorem sumN_out (T : Int → Bool) (N : List Int) (hN : N.Nodup) : ∀ (l : List Edge) (f : List Int), (∀ e ∈ l, (e.src ∈ N ↔ T e.src = true) ∧ (e.dst ∈ N ↔ T e.dst = true)) → sumN N l f = outF T l f
  | [], _, _ => sum_zero _ N (fun k _ => by simp [net])
  | e :: l, [], _ => sum_zero _ N (fun k _ => by simp [net])
  | e :: l, x :: f, h => by
    have ih := sumN_out T N hN l f (fun e he => h e (by simp [he]))
    have h0 := h e (by simp)
    rw [sumN_cons N hN, ih]
    show _ = outF T l f + (if T e.src then x else 0) - (if T e.dst then x else 0)
    have e1 : (if e.src ∈ N then x else 0) = (if T e.src = true then x else 0) := by
      by_cases hh : T e.src = true
      · rw [if_pos hh, if_pos (h0.1.2 hh)]
      · rw [if_neg hh, if_neg (fun z => hh (h0.1.1 z))]
    have e2 : (if e.dst ∈ N then x else 0) = (if T e.dst = true then x else 0) := by
      by_cases hh : T e.dst = true
      · rw [if_pos hh, if_pos (h0.2.2 hh)]
      · rw [if_neg hh, if_neg (fun z => hh (h0.2.1 z))]
    rw [e1, e2]
theorem sum_one (F : Int → Int) (s : Int) : ∀ N : List Int, N.Nodup → s ∈ N → (∀ k ∈ N, k ≠ s → F k = 0) → (N.map F).sum = F s
  | [], _, h, _ => by cases h
  | a :: N, hN, hs, h => by
    obtain ⟨h1, h2⟩ := List.nodup_cons.1 hN
    rw [List.map_cons, List.sum_cons]
    rcases List.mem_cons.1 hs with rfl | hs
    · rw [sum_zero F N (fun k hk => h k (by simp [hk]) (fun e => h1 (e ▸ hk)))]; omega
    · rw [h a (by simp) (fun e => h1 (e ▸ hs)), sum_one F s N h2 hs (fun k hk => h k (by simp [hk]))]; omega
/-- The value of a flow is what flows out of any separating set. -/
theorem IsFlow.value {l : List Edge} {f : List Int} {s t : Int} (h : IsFlow l f s t) (T : Int → Bool) (hs : T s = true) (ht : T t = false) : net l f s = outF T l f := by
  have hN := nub_nodup ((s :: ends l).filter T)
  have hmem : ∀ x, x ∈ nub ((s :: ends l).filter T) ↔ (x = s ∨ x ∈ ends l) ∧ T x = true := fun x => by
    rw [mem_nub, List.mem_filter, List.mem_cons]
  rw [← sumN_out T _ hN l f (fun e he => by
    obtain ⟨k, hk, rfl⟩ := mem_edAt he
    have := ends_mem hk
    rw [hmem, hmem]
    simp [this])]
  unfold sumN
  rw [sum_one (net l f) s _ hN ((hmem s).2 ⟨.inl rfl, hs⟩) (fun k hk hks => h.bal k hks (fun e => by
    have := ((hmem k).1 hk).2
    rw [e, ht] at this; cases this))]
theorem out_le (T : Int → Bool) : ∀ (l : List Edge) (f : List Int), f.length = l.length → (∀ i, i < l.length → 0 ≤ numAt f i ∧ numAt f i ≤ (edAt l i).cost) → outF T l f ≤ capOf T l
  | [], _, _, _ => by simp [outF, capOf]
  | e :: l, [], h, _ => by simp at h
  | e :: l, x :: f, h, hc => by
    have ih := out_le T l f (by simpa using h) (fun i hi => by have := hc (i + 1) (by simpa using hi); rwa [numAt_cons_succ, edAt_cons_succ] at this)
    have h0 := hc 0 (by simp)
    simp only [numAt, edAt, List.getD_cons_zero] at h0
    unfold outF capOf
    cases T e.src <;> cases T e.dst <;> simp <;> omega
theorem out_eq (T : Int → Bool) : ∀ (l : List Edge) (f : List Int), f.length = l.length → (∀ i, i < l.length → 0 ≤ numAt f i ∧ numAt f i ≤ (edAt l i).cost) → outF T l f = capOf T l →
    ∀ i, i < l.length → (T (edAt l i).src = true → T (edAt l i).dst = false → numAt f i = (edAt l i).cost) ∧ (T (edAt l i).src = false → T (edAt l i).dst = true → numAt f i = 0)
  | [], _, _, _, _ => fun i hi => by simp at hi
  | e :: l, [], h, _, _ => by simp at h
  | e :: l, x :: f, h, hc, he => by
    have hc' : ∀ i, i < l.length → 0 ≤ numAt f i ∧ numAt f i ≤ (edAt l i).cost := fun i hi => by have := hc (i + 1) (by simpa using hi); rwa [numAt_cons_succ, edAt_cons_succ] at this
    have hle := out_le T l f (by simpa using h) hc'
    have h0 := hc 0 (by simp)
    simp only [numAt, edAt, List.getD_cons_zero] at h0
    unfold outF capOf at he
    have heq : outF T l f = capOf T l := by
      cases h1 : T e.src <;> cases h2 : T e.dst <;> simp [h1, h2] at he <;> omega
    have ih := out_eq T l f (by simpa using h) hc' heq
    intro i hi
    cases i with
    | zero =>
      simp only [numAt, edAt, List.getD_cons_zero]
      constructor <;> intro h1 h2 <;> simp [h1, h2] at he <;> omega
    | succ i =>
      rw [numAt_cons_succ, edAt_cons_succ]
      exact ih i (by simpa using hi)
theorem out_of (T : Int → Bool) : ∀ (l : List Edge) (f : List Int), f.length = l.length →
    (∀ i, i < l.length → (T (edAt l i).src = true → T (edAt l i).dst = false → numAt f i = (edAt l i).cost) ∧ (T (edAt l i).src = false → T (edAt l i).dst = true → numAt f i = 0)) → outF T l f = capOf T l
  | [], _, _, _ => by simp [outF, capOf]
  | e :: l, [], h, _ => by simp at h
  | e :: l, x :: f, h, hc => by
    have ih := out_of T l f (by simpa using h) (fun i hi => by have := hc (i + 1) (by simpa using hi); rwa [numAt_cons_succ, edAt_cons_succ] at this)
    have h0 := hc 0 (by simp)
    simp only [numAt, edAt, List.getD_cons_zero] at h0
    unfold outF capOf
    rw [ih]
    cases h1 : T e.src <;> cases h2 : T e.dst <;> simp [h1, h2] at h0 ⊢ <;> omega
def inS (S : List Int) : Int → Bool := fun k => decide (k ∈ S)
theorem IsFlow.weak {l : List Edge} {f : List Int} {s t : Int} (h : IsFlow l f s t) (T : Int → Bool) (hs : T s = true) (ht : T t = false) : net l f s ≤ capOf T l := by
  rw [h.value T hs ht]; exact out_le T l f h.len h.cap
theorem MaxF.tight {l : List Edge} {f : List Int} {s t : Int} {S : List Int} (h : MaxF l f s t S) : net l f s = capOf (inS S) l := by
  rw [h.flow.value (inS S) (by simp [inS, h.src]) (by simp [inS, h.dst])]
  refine out_of _ l f h.flow.len fun i hi => ⟨fun h1 h2 => ?_, fun h1 h2 => ?_⟩
  · simp [inS] at h1 h2
    have := h.flow.cap i hi
    rcases Int.lt_or_le (numAt f i) (edAt l i).cost with hlt | hge
    · exact absurd (h.shut i false _ _ h1 ⟨hi, by simp [hlt]⟩) h2
    · omega
  · simp [inS] at h1 h2
    have := h.flow.cap i hi
    rcases Int.lt_or_le 0 (numAt f i) with hlt | hge
    · exact absurd (h.shut i true _ _ h2 ⟨hi, by simp [hlt]⟩) h1
    · omega
theorem MaxF.most {l : List Edge} {f g : List Int} {s t : Int} {S : List Int} (h : MaxF l f s t S) (hg : IsFlow l g s t) : net l g s ≤ net l f s := by
  rw [h.tight]
  exact hg.weak _ (by simp [inS, h.src]) (by simp [inS, h.dst])
theorem MaxF.val_eq {l : List Edge} {f g : List Int} {s t : Int} {S U : List Int} (h : MaxF l f s t S) (k : MaxF l g s t U) : net l f s = net l g s := by
  have := h.most k.flow
  have := k.most h.flow
  omega
theorem MaxF.sub {l : List Edge} {f g : List Int} {s t : Int} {S U : List Int} (h : MaxF l f s t S) (k : MaxF l g s t U) : ∀ x, x ∈ S → x ∈ U := by
  have he : outF (inS U) l f = capOf (inS U) l := by
    rw [← h.flow.value (inS U) (by simp [inS, k.src]) (by simp [inS, k.dst]), h.val_eq k, k.tight]
  have hq := out_eq (inS U) l f h.flow.len h.flow.cap he
  refine h.least (· ∈ U) k.src fun j b u x hu hr => ?_
  obtain ⟨hj, hr⟩ := hr
  have := hq j hj
  simp only [inS, decide_eq_true_eq, decide_eq_false_iff_not] at this
  rcases Classical.em (x ∈ U) with h' | h'
  · exact h'
  · exfalso
    cases b
    · simp at hr
      have := this.1 (by rw [hr.1]; exact hu) (by rw [hr.2.1]; exact h')
      omega
    · simp at hr
      have := this.2 (by rw [hr.2.1]; exact h') (by rw [hr.1]; exact hu)
      omega
theorem MaxF.same {l : List Edge} {f g : List Int} {s t : Int} {S U : List Int} (h : MaxF l f s t S) (k : MaxF l g s t U) : inS S = inS U := by
  funext x
  unfold inS
  rw [Bool.eq_iff_iff]
  simp only [decide_eq_true_eq]
  exact ⟨h.sub k x, k.sub h x⟩
end Go.Proofs.Ytambnjhopijkfaa
