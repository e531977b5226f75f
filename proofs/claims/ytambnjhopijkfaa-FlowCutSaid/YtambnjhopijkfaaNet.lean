/- The flow through a node: plain. -/
import Derived.Test.YtambnjhopijkfaaBase
namespace Go.Proofs.Ytambnjhopijkfaa
open Go.RowKit
def net : List Edge → List Int → Int → Int
  | e :: l, x :: f, k => net l f k + (if e.src = k then x else 0) - (if e.dst = k then x else 0)
  | _, _, _ => 0
def isNode (l : List Edge) (k : Int) : Bool := l.any (fun e => decide (e.src = k) || decide (e.dst = k))
theorem isNode_append (l : List Edge) (e : Edge) (k : Int) : isNode (l ++ [e]) k = (isNode l k || (decide (e.src = k) || decide (e.dst = k))) := by
  simp [isNode, List.any_append]
theorem net_append (e : Edge) (x : Int) (k : Int) : ∀ (l : List Edge) (f : List Int), f.length = l.length →
    net (l ++ [e]) (f ++ [x]) k = net l f k + (if e.src = k then x else 0) - (if e.dst = k then x else 0)
  | [], [], _ => by simp [net]
  | a :: l, y :: f, h => by
    have := net_append e x k l f (by simpa using h)
    simp only [List.cons_append, net, this]
    omega
theorem net_none {k : Int} : ∀ {l : List Edge} {f : List Int}, isNode l k = false → net l f k = 0
  | [], _, _ => by simp [net]
  | a :: l, [], _ => by simp [net]
  | a :: l, y :: f, h => by
    simp only [isNode, List.any_cons, Bool.or_eq_false_iff, decide_eq_false_iff_not] at h
    have := net_none (l := l) (f := f) (k := k) (by simpa [isNode] using h.2)
    simp [net, this, h.1.1, h.1.2]
/-- The map that surplus makes. -/
def surpM (l : List Edge) (f : List Int) (k : Int) : Option Value := if isNode l k then some (.int .i64 (wrap64 (net l f k))) else none
theorem surpM_getD (l : List Edge) (f : List Int) (k : Int) : (surpM l f k).getD (.int .i64 0) = .int .i64 (wrap64 (net l f k)) := by
  unfold surpM
  split
  · rfl
  · rename_i h
    rw [net_none (by simpa using h)]; simp [wrap64]
theorem wrap_i64 (x : Int) : IntKind.i64.wrap x = wrap64 x := IntWalk.i64_left x
theorem wrap_add (a b : Int) : wrap64 (wrap64 a + b) = wrap64 (a + b) := by unfold wrap64; omega
theorem wrap_sub (a b : Int) : wrap64 (wrap64 a - b) = wrap64 (a - b) := by unfold wrap64; omega
theorem surpM_step (l : List Edge) (f : List Int) (e : Edge) (x : Int) (h : f.length = l.length) (k : Int) :
    surpM (l ++ [e]) (f ++ [x]) k =
      IMap.upd (IMap.upd (surpM l f) e.src (some (.int .i64 (wrap64 (net l f e.src + x))))) e.dst
        (some (.int .i64 (wrap64 (net (l ++ [e]) (f ++ [x]) e.dst)))) k := by
  unfold IMap.upd
  by_cases h2 : k = e.dst
  · subst h2; simp [surpM, isNode_append]
  · by_cases h1 : k = e.src
    · subst h1
      have hne : ¬ e.dst = e.src := fun hh => h2 hh.symm
      simp [surpM, isNode_append, net_append _ _ _ _ _ h, h2, hne]
    · have h1' : ¬ e.src = k := fun hh => h1 hh.symm
      have h2' : ¬ e.dst = k := fun hh => h2 hh.symm
      simp [surpM, isNode_append, net_append _ _ _ _ _ h, h1, h2, h1', h2']
theorem surpM_mid (l : List Edge) (f : List Int) (e : Edge) (x : Int) (h : f.length = l.length) :
    ((IMap.upd (surpM l f) e.src (some (.int .i64 (wrap64 (net l f e.src + x))))) e.dst).getD (.int .i64 0) = .int .i64 (wrap64 (net (l ++ [e]) (f ++ [x]) e.dst + x)) := by
  unfold IMap.upd
  by_cases h1 : e.dst = e.src
  · rw [if_pos h1, net_append _ _ _ _ _ h, h1]
    simp
  · rw [if_neg h1, surpM_getD, net_append _ _ _ _ _ h]
    have h1' : ¬ e.src = e.dst := fun hh => h1 hh.symm
    simp [h1']
end Go.Proofs.Ytambnjhopijkfaa
