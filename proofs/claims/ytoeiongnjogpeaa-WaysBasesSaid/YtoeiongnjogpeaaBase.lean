/- Edges, and slices that are read: plain words. -/
import Derived.Test.YtoeiongnjogpeaaIMap
import Derived.WalkKit
import Derived.Deep.LoopGhost
import Derived.Deep.QuietTactic
import Derived.BigQuiet
import Derived.StillTailTactics
import Derived.Deep.DeepCutAuto
import Derived.Lib.Hide
namespace Go.Proofs.Ytoeiongnjogpeaa
open Go.RowKit

structure Edge where
  id : Int
  src : Int
  dst : Int
  cost : Int
deriving DecidableEq
def edge0 : Edge := ⟨0, 0, 0, 0⟩
def edAt (l : List Edge) (k : Nat) : Edge := l.getD k edge0
def numAt (l : List Int) (k : Nat) : Int := l.getD k 0
theorem edAt_eq {l : List Edge} {k : Nat} (h : k < l.length) : l[k]? = some (edAt l k) := by simp [edAt, h]
theorem numAt_eq {l : List Int} {k : Nat} (h : k < l.length) : l[k]? = some (numAt l k) := by simp [numAt, h]
theorem take_ed {l : List Edge} {k : Nat} (h : k < l.length) : l.take (k + 1) = l.take k ++ [edAt l k] := by
  rw [List.take_add_one, edAt_eq h]; rfl
theorem take_num {l : List Int} {k : Nat} (h : k < l.length) : l.take (k + 1) = l.take k ++ [numAt l k] := by
  rw [List.take_add_one, numAt_eq h]; rfl
def Edge.cells (e : Edge) : List Value := [.int .i64 e.id, .int .i64 e.src, .int .i64 e.dst, .int .i64 e.cost]

/-- The slice at A reads as the numbers xs. -/
def RdI (w : World) (A : Option Addr) (xs : List Int) : Prop :=
  xs.length ≤ 9223372036854775807 ∧ ∀ i, i < xs.length → ∃ a, A = some a ∧ w.cell? (a.add i) = some (.int .i64 (numAt xs i))
/-- The slice at A reads as the edges xs. -/
def RdE (w : World) (A : Option Addr) (xs : List Edge) : Prop :=
  xs.length ≤ 9223372036854775807 ∧ ∀ i, i < xs.length → ∃ a, A = some a ∧ w.cell? (a.add (i * 4)) = some (.int .i64 (edAt xs i).id) ∧
    w.cell? ⟨(a.add (i * 4)).block, (a.add (i * 4)).off + 1, none⟩ = some (.int .i64 (edAt xs i).src) ∧
    w.cell? ⟨(a.add (i * 4)).block, (a.add (i * 4)).off + 2, none⟩ = some (.int .i64 (edAt xs i).dst) ∧
    w.cell? ⟨(a.add (i * 4)).block, (a.add (i * 4)).off + 3, none⟩ = some (.int .i64 (edAt xs i).cost)
theorem RdI.below {w w' : World} {A : Option Addr} {xs : List Int} (h : RdI w A xs) (hb : Below w.heap.size w w') : RdI w' A xs :=
  ⟨h.1, fun i hi => by
    obtain ⟨a, ha, hc⟩ := h.2 i hi
    exact ⟨a, ha, (hb.cell (World.block_lt_of_cell? w _ hc)).trans hc⟩⟩
theorem RdE.below {w w' : World} {A : Option Addr} {xs : List Edge} (h : RdE w A xs) (hb : Below w.heap.size w w') : RdE w' A xs :=
  ⟨h.1, fun i hi => by
    obtain ⟨a, ha, h0, h1, h2, h3⟩ := h.2 i hi
    have z := fun {p : Addr} {v : Value} (hc : w.cell? p = some v) => (hb.cell (World.block_lt_of_cell? w _ hc)).trans hc
    exact ⟨a, ha, z h0, z h1, z h2, z h3⟩⟩
theorem RdI.addr {w : World} {A : Option Addr} {xs : List Int} (h : RdI w A xs) {i : Nat} (hi : i < xs.length) : ∃ a, A = some a := by
  obtain ⟨a, ha, _⟩ := h.2 i hi
  exact ⟨a, ha⟩
theorem RdE.addr {w : World} {A : Option Addr} {xs : List Edge} (h : RdE w A xs) {i : Nat} (hi : i < xs.length) : ∃ a, A = some a := by
  obtain ⟨a, ha, _⟩ := h.2 i hi
  exact ⟨a, ha⟩
theorem RdI.at_ {w W : World} {a : Addr} {xs : List Int} (h : RdI w (some a) xs) (hb : Below w.heap.size w W) {i : Nat} (hi : i < xs.length) : W.cell? (a.add i) = some (.int .i64 (numAt xs i)) := by
  obtain ⟨a', ha, hc⟩ := (h.below hb).2 i hi
  cases ha; exact hc
theorem RdE.at_ {w W : World} {a : Addr} {xs : List Edge} (h : RdE w (some a) xs) (hb : Below w.heap.size w W) {i : Nat} (hi : i < xs.length) : W.cell? (a.add (i * 4)) = some (.int .i64 (edAt xs i).id) ∧
    W.cell? ⟨(a.add (i * 4)).block, (a.add (i * 4)).off + 1, none⟩ = some (.int .i64 (edAt xs i).src) ∧
    W.cell? ⟨(a.add (i * 4)).block, (a.add (i * 4)).off + 2, none⟩ = some (.int .i64 (edAt xs i).dst) ∧
    W.cell? ⟨(a.add (i * 4)).block, (a.add (i * 4)).off + 3, none⟩ = some (.int .i64 (edAt xs i).cost) := by
  obtain ⟨a', ha, hc⟩ := (h.below hb).2 i hi
  cases ha; exact hc
/-- A new block of cells. -/
theorem box_below (wr : World) (o : Obj) : Below wr.heap.size wr (wr.alloc o) := (Below.refl _ _).alloc (Nat.le_refl _) o
theorem box_cell (wr : World) (cs : Array Value) (t : TypeId) (j : Nat) (v : Value) (h : cs[j]? = some v) : (wr.alloc (.cells cs t)).cell? ⟨wr.heap.size, j, none⟩ = some v := by
  unfold World.cell?
  rw [heap_alloc_new]
  simpa using h
theorem below_in {B : Nat} {w w1 w2 : World} (h : Below B w w1) (k : Below w1.heap.size w1 w2) (hB : B ≤ w1.heap.size) : Below B w w2 := h.trans (k.mono hB)
theorem below_drewN {B : Nat} {a w : World} (h : Below B a w) (n : Nat) : Below B a (w.drewN n) := ⟨h.os, h.tape, h.output, h.size, h.block⟩
/-- A region that draws its order: the first n operations only read, then the tail stands. -/
theorem region_tail {P : Program} {id : Nat} {Q : Exit → Act → World → Prop} {a : Act} {w : World} {l : List Oper} (n : Nat) (hm : P.follows .mixedOrders = true) (hB : Region.lexTailB .any l.toArray n = true)
    (h : ∀ W : World, W = w.drew → wpStill P l.toArray W (fun a' => wpList P l.toArray Q (l.drop n) a' W) (l.take n) a) : (Code.region id l.toArray true).wp P Q a w :=
  wp_region_still_tail n hm hB (h _ rfl)
end Go.Proofs.Ytoeiongnjogpeaa
