/- Proved here, in plain terms: a greatest flow exists for accepted edges and two nodes; edges turned round carry as much; one edge's capacity raises it by at most as much. -/
import Derived.Test.YtambnjhopijkfaaMaxCut
namespace Go.Proofs.Ytambnjhopijkfaa
open Go.RowKit
theorem exists_max (A : Option Addr) (c : Nat) (l : List Edge) (s t : Int) (w : World) (hl : RdE w A l) (hr : Right l) (hst : s ≠ t) : ∃ f S, MaxF l f s t S := by
  obtain ⟨e, w', fr, ⟨v, f, S, _, _, hM, _⟩, _⟩ := find_ne A c l s t w hl hr hst []
  exact ⟨f, S, hM⟩
theorem maxV_bound {l : List Edge} (hr : Right l) (s t : Int) : -200000000 ≤ maxV l s t ∧ maxV l s t ≤ 200000000 := by
  rcases Classical.em (∃ f S, MaxF l f s t S) with ⟨f, S, h⟩ | h
  · rw [maxV_of h]
    have := net_bound s l f (fun i hi => ⟨(h.flow.cap i hi).1, Int.le_trans (h.flow.cap i hi).2 (right_cost hr hi).2⟩)
    have := hr.len
    omega
  · unfold maxV
    rw [dif_neg h]
    omega
def turn (e : Edge) : Edge := ⟨e.id, e.dst, e.src, e.cost⟩
theorem turn_turn (l : List Edge) : (l.map turn).map turn = l := by
  rw [List.map_map]
  have : turn ∘ turn = id := by funext e; rfl
  rw [this, List.map_id]
theorem edAt_turn {l : List Edge} {i : Nat} (hi : i < l.length) : edAt (l.map turn) i = turn (edAt l i) := by
  simp [edAt, hi]
theorem Right.turn {l : List Edge} (h : Right l) : Right (l.map turn) := by
  refine ⟨by simpa using h.len, fun e he => ?_, fun i j hij hj => ?_⟩
  · obtain ⟨x, hx, rfl⟩ := List.mem_map.1 he
    obtain ⟨a, b, c, d, e, f⟩ := h.ok x hx
    exact ⟨c, d, a, b, e, f⟩
  · rw [List.length_map] at hj
    rw [edAt_turn hj, edAt_turn (by omega)]
    exact h.ids i j hij hj
theorem net_turn (k : Int) : ∀ (l : List Edge) (f : List Int), net (l.map turn) f k = - net l f k
  | [], _ => by simp [net]
  | e :: l, [] => by simp [net]
  | e :: l, x :: f => by
    have ih := net_turn k l f
    simp only [List.map_cons, net, ih, Go.Proofs.Ytambnjhopijkfaa.turn]
    omega
theorem IsFlow.turn {l : List Edge} {f : List Int} {s t : Int} (h : IsFlow l f s t) : IsFlow (l.map turn) f t s := by
  refine ⟨by rw [List.length_map]; exact h.len, fun i hi => ?_, fun k h1 h2 => ?_⟩
  · rw [List.length_map] at hi
    rw [edAt_turn hi]
    exact h.cap i hi
  · rw [net_turn, h.bal k h2 h1]; rfl
theorem out_not (t : Int) : ∀ (l : List Edge) (f : List Int), outF (fun k => decide (k ≠ t)) l f = - net l f t
  | [], _ => by simp [net, outF]
  | e :: l, [] => by simp [net, outF]
  | e :: l, x :: f => by
    have ih := out_not t l f
    unfold outF net
    rw [ih]
    by_cases h1 : e.src = t <;> by_cases h2 : e.dst = t <;> simp [h1, h2] <;> omega
theorem IsFlow.ends {l : List Edge} {f : List Int} {s t : Int} (h : IsFlow l f s t) (hst : s ≠ t) : net l f s = - net l f t := by
  rw [h.value (fun k => decide (k ≠ t)) (by simpa using hst) (by simp), out_not]
theorem maxV_turn {l : List Edge} {f g : List Int} {s t : Int} {S U : List Int} (hst : s ≠ t) (h : MaxF l f s t S) (k : MaxF (l.map turn) g t s U) : maxV (l.map turn) t s = maxV l s t := by
  rw [maxV_of h, maxV_of k]
  have h1 := k.most h.flow.turn
  have h2 : IsFlow l g s t := by have := k.flow.turn; rwa [turn_turn] at this
  have h3 := h.most h2
  have h4 := h2.ends hst
  have h5 := h.flow.ends hst
  simp only [net_turn] at h1 ⊢
  omega
/-- The list with more capacity at one place. -/
def moreAt (l : List Edge) (i : Nat) (b : Int) : List Edge := l.set i ⟨(edAt l i).id, (edAt l i).src, (edAt l i).dst, (edAt l i).cost + b⟩
theorem edAt_more {l : List Edge} {i j : Nat} (b : Int) (hi : i < l.length) : edAt (moreAt l i b) j = if j = i then ⟨(edAt l i).id, (edAt l i).src, (edAt l i).dst, (edAt l i).cost + b⟩ else edAt l j := by
  unfold moreAt
  by_cases h : j = i
  · subst h
    simp [edAt, hi]
  · have h' : ¬ i = j := fun e => h e.symm
    simp [edAt, h, h']
theorem net_more (b k : Int) : ∀ (l : List Edge) (i : Nat) (f : List Int), net (moreAt l i b) f k = net l f k
  | [], _, _ => by simp [moreAt]
  | e :: l, 0, [] => by simp [moreAt, net]
  | e :: l, 0, x :: f => by simp [moreAt, net, edAt]
  | e :: l, i + 1, [] => by simp [moreAt, net]
  | e :: l, i + 1, x :: f => by
    have ih := net_more b k l i f
    have : moreAt (e :: l) (i + 1) b = e :: moreAt l i b := by unfold moreAt; simp [edAt]
    rw [this]
    simp only [net, ih]
theorem cap_more (T : Int → Bool) (b : Int) (hb : 0 ≤ b) : ∀ (l : List Edge) (i : Nat), capOf T (moreAt l i b) ≤ capOf T l + b
  | [], _ => by simp [moreAt, capOf, hb]
  | e :: l, 0 => by
    have : moreAt (e :: l) 0 b = ⟨e.id, e.src, e.dst, e.cost + b⟩ :: l := by simp [moreAt, edAt]
    rw [this]
    unfold capOf
    cases T e.src <;> cases T e.dst <;> simp <;> omega
  | e :: l, i + 1 => by
    have ih := cap_more T b hb l i
    have : moreAt (e :: l) (i + 1) b = e :: moreAt l i b := by unfold moreAt; simp [edAt]
    rw [this]
    unfold capOf
    omega
theorem maxV_more {l : List Edge} {i : Nat} {b : Int} {f g : List Int} {s t : Int} {S U : List Int} (hi : i < l.length) (hb : 0 ≤ b) (h : MaxF l f s t S) (k : MaxF (moreAt l i b) g s t U) :
    maxV l s t ≤ maxV (moreAt l i b) s t ∧ maxV (moreAt l i b) s t ≤ maxV l s t + b := by
  have hlen : (moreAt l i b).length = l.length := by simp [moreAt]
  rw [maxV_of h, maxV_of k]
  constructor
  · have hf : IsFlow (moreAt l i b) f s t := by
      refine ⟨by rw [hlen]; exact h.flow.len, fun j hj => ?_, fun x h1 h2 => by rw [net_more]; exact h.flow.bal x h1 h2⟩
      rw [hlen] at hj
      have := h.flow.cap j hj
      rw [edAt_more b hi]
      split
      · rename_i e
        subst e
        exact ⟨this.1, by have := this.2; show _ ≤ _ + b; omega⟩
      · exact this
    have := k.most hf
    rwa [net_more] at this
  · have h1 := k.flow.weak (inS S) (by simp [inS, h.src]) (by simp [inS, h.dst])
    have h2 := cap_more (inS S) b hb l i
    rw [h.tight]
    omega
end Go.Proofs.Ytambnjhopijkfaa
