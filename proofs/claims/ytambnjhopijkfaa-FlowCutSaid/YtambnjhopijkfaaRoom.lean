/- Proved here: the function room of the package flow returns the least room of a way. Condition: the steps name edges. -/
import Derived.Test.YtambnjhopijkfaaAug
namespace Go.Proofs.Ytambnjhopijkfaa
open Go.RowKit
theorem OwnS.rdI {w : World} {B n c : Nat} {A : Option Addr} {f : List Int} (h : OwnS 3 1 w B (.slice A n c) n (f.map (Value.int .i64))) : RdI w A f := by
  have hl : f.length = n := by have := h.1; simpa using this
  obtain ⟨_, _, _, hn, hc⟩ := h.slice
  refine ⟨?_, fun i hi => ?_⟩
  · have := h.2
    obtain ⟨A', c', hv, h1, h2, _⟩ := this
    simp only [maxLen] at h2
    omega
  · obtain ⟨g, o, rfl, hcell, _⟩ := h.cell (j := i) (u := .int .i64 (numAt f i)) (by rw [List.getElem?_map, numAt_eq hi]; rfl)
    exact ⟨_, rfl, by rw [Addr.add_lit]; exact hcell⟩
def stepAt (ps : List (Nat × Bool)) (i : Nat) : Nat × Bool := ps.getD i (0, false)
theorem stepAt_eq {ps : List (Nat × Bool)} {i : Nat} (h : i < ps.length) : ps[i]? = some (stepAt ps i) := by simp [stepAt, h]
/-- The slice at A reads as the steps ps. -/
def RdS (w : World) (A : Option Addr) (ps : List (Nat × Bool)) : Prop :=
  ps.length ≤ 9223372036854775807 ∧ ∀ i, i < ps.length → ∃ a, A = some a ∧ w.cell? (a.add (i * 2)) = some (.int .i64 ((stepAt ps i).1 : Int)) ∧ w.cell? ⟨(a.add (i * 2)).block, (a.add (i * 2)).off + 1, none⟩ = some (.bool (stepAt ps i).2)
theorem RdS.below {w w' : World} {A : Option Addr} {ps : List (Nat × Bool)} (h : RdS w A ps) (hb : Below w.heap.size w w') : RdS w' A ps :=
  ⟨h.1, fun i hi => by
    obtain ⟨a, ha, h0, h1⟩ := h.2 i hi
    have z := fun {p : Addr} {v : Value} (hc : w.cell? p = some v) => (hb.cell (World.block_lt_of_cell? w _ hc)).trans hc
    exact ⟨a, ha, z h0, z h1⟩⟩
theorem steps_get (ps : List (Nat × Bool)) : ∀ i, i < ps.length → (ps.flatMap stepCells)[i * 2]? = some (.int .i64 ((stepAt ps i).1 : Int)) ∧ (ps.flatMap stepCells)[i * 2 + 1]? = some (.bool (stepAt ps i).2) := by
  induction ps with
  | nil => intro i h; simp at h
  | cons p ps ih =>
    intro i hi
    cases i with
    | zero => simp [stepCells, stepAt]
    | succ i =>
      have := ih i (by simpa using hi)
      have e1 : (i + 1) * 2 = i * 2 + 2 := by omega
      have e2 : (i + 1) * 2 + 1 = i * 2 + 1 + 2 := by omega
      rw [e1, show i * 2 + 2 + 1 = i * 2 + 1 + 2 by omega]
      simp only [List.flatMap_cons, stepCells, List.cons_append, List.nil_append, List.getElem?_cons_succ]
      simpa [stepAt, stepCells] using this
theorem OwnS.rdS {w : World} {B n c : Nat} {A : Option Addr} {ps : List (Nat × Bool)} (h : OwnS 46 2 w B (.slice A n c) n (ps.flatMap stepCells)) (hn : ps.length = n) : RdS w A ps := by
  refine ⟨?_, fun i hi => ?_⟩
  · obtain ⟨A', c', hv, h1, h2, _⟩ := h.2
    simp only [maxLen] at h2
    omega
  · obtain ⟨e1, e2⟩ := steps_get ps i hi
    obtain ⟨g, o, rfl, hc1, _⟩ := h.cell e1
    obtain ⟨g', o', hA, hc2, _⟩ := h.cell e2
    cases hA
    exact ⟨_, rfl, by rw [Addr.add_lit]; exact hc1, by rw [Addr.add_lit]; exact hc2⟩

set_option maxHeartbeats 1000000 in
/-- flow.Find's room -/
theorem room_any (A F : Option Addr) (c d lb fb : Nat) (l : List Edge) (f : List Int) (p : Nat × Bool) (w : World) (hl : RdE w A l) (hf : RdI w F f) (hlen : f.length = l.length) (hp : p.1 < l.length)
    (hlb : w.heap[lb]? = some (.cells #[.slice A l.length c] 22 (0, 0))) (hfb : w.heap[fb]? = some (.cells #[.slice F f.length d] 23 (0, 0))) (hcap : 0 ≤ numAt f p.1 ∧ numAt f p.1 ≤ (edAt l p.1).cost ∧ (edAt l p.1).cost ≤ 1000000) :
    Calls Try.prog 33 #[.agg #[.int .i64 (p.1 : Int), .bool p.2], .pointer (some ⟨fb, 0, none⟩), .pointer (some ⟨lb, 0, none⟩)] w fun e w' => e = .returned (.int .i64 (room l f p)) ∧ Below w.heap.size w w' := by
  obtain ⟨j, b⟩ := p
  simp only at hp hcap ⊢
  have hm := hl.1
  have hm2 := hf.1
  have hjf : j < f.length := by omega
  obtain ⟨a, rfl⟩ := hl.addr hp
  obtain ⟨q, rfl⟩ := hf.addr hjf
  have hbV : Below w.heap.size w (w.alloc (.cells #[.int .i64 (j : Int), .bool b] 46)) := box_below _ _
  obtain ⟨c0, c1, c2, c3⟩ := hl.at_ hbV hp
  have d0 := hf.at_ hbV hjf
  have e0 := block_cell (alloc_block hlb (.cells #[.int .i64 (j : Int), .bool b] 46)) (j := 0) (v := .slice (some a) l.length c) rfl
  have e1 := block_cell (alloc_block hfb (.cells #[.int .i64 (j : Int), .bool b] 46)) (j := 0) (v := .slice (some q) f.length d) rfl
  have i1 : ((j : Int) < (l.length : Int)) := by omega
  have i2 : ((j : Int) < (f.length : Int)) := by omega
  obtain ⟨k0, k1, k2⟩ := hcap
  have hlt := (Array.getElem?_eq_some_iff.1 hlb).1
  have hlt2 := (Array.getElem?_eq_some_iff.1 hfb).1
  have HB := Lib.hid hbV
  have HLEN := Lib.hid hlen
  have hs : wrap64 ((edAt l j).cost - numAt f j) = (edAt l j).cost - numAt f j := by unfold wrap64; omega
  have HS := Lib.hid hs
  clear hbV hl hf hlen hs hlb hfb
  cases b
  · unfold room
    simp only [Bool.false_eq_true, if_false]
    go_enter Try.func33, Try.ntmps33
    go_wp2
    go_quiet (fail)
    go_wp2
    go_ret
    exact ⟨by first | rfl | (rw [HS.out]; rfl), below_drewN HB.out _⟩
  · unfold room
    simp only [if_true]
    go_enter Try.func33, Try.ntmps33
    go_wp2
    go_ret
    exact ⟨rfl, HB.out⟩
end Go.Proofs.Ytambnjhopijkfaa
