/- Structs of whole numbers in slices: nodes, lifts, runs: plain words and readers. Written by gen_rd.py. A map of a ski area as a value, and how it reads. Written by gen_rd.py. New slices of nodes, lifts, runs read as what they were made of. Written by gen_rd.py. -/
import Derived.Test.YtoeiongnjogpeaaBase
import Derived.Test.YtoeiongnjogpeaaOwnAll
import Derived.Deep.MidRow
namespace Go.Proofs.Ytoeiongnjogpeaa
open Go.RowKit
structure NodeM where
  id : Int
  alt : Int
deriving DecidableEq
def node0 : NodeM := ⟨0, 0⟩
def nodeAt (l : List NodeM) (k : Nat) : NodeM := l.getD k node0
theorem nodeAt_eq {l : List NodeM} {k : Nat} (h : k < l.length) : l[k]? = some (nodeAt l k) := by simp [nodeAt, h]
theorem take_node {l : List NodeM} {k : Nat} (h : k < l.length) : l.take (k + 1) = l.take k ++ [nodeAt l k] := by
  rw [List.take_add_one, nodeAt_eq h]; rfl
theorem nodeAt_mem {l : List NodeM} {k : Nat} (h : k < l.length) : nodeAt l k ∈ l := List.mem_of_getElem? (nodeAt_eq h)
theorem mem_nodeAt {l : List NodeM} {e : NodeM} (h : e ∈ l) : ∃ k, k < l.length ∧ nodeAt l k = e := by
  obtain ⟨k, hk, he⟩ := List.mem_iff_getElem.1 h
  refine ⟨k, hk, ?_⟩
  have := nodeAt_eq hk
  rw [List.getElem?_eq_getElem hk, he] at this
  exact (Option.some.inj this).symm
theorem drop_node {l : List NodeM} {k : Nat} (h : k < l.length) : l.drop k = nodeAt l k :: l.drop (k + 1) := by
  rw [List.drop_eq_getElem_cons h]
  congr 1
  have := nodeAt_eq h
  rw [List.getElem?_eq_getElem h] at this
  exact Option.some.inj this
theorem nodeAt_succ (e : NodeM) (l : List NodeM) (i : Nat) : nodeAt (e :: l) (i + 1) = nodeAt l i := by simp [nodeAt]
def nodeCells (e : NodeM) : List Value := [.int .i64 e.id, .int .i64 e.alt]
/-- The slice at A reads as xs. -/
def RdNode (w : World) (A : Option Addr) (xs : List NodeM) : Prop :=
  xs.length ≤ 9223372036854775807 ∧ ∀ i, i < xs.length → ∃ a, A = some a ∧ w.cell? (a.add (i * 2)) = some (.int .i64 (nodeAt xs i).id) ∧ w.cell? ⟨(a.add (i * 2)).block, (a.add (i * 2)).off + 1, none⟩ = some (.int .i64 (nodeAt xs i).alt)
theorem RdNode.below {w w' : World} {A : Option Addr} {xs : List NodeM} (h : RdNode w A xs) (hb : Below w.heap.size w w') : RdNode w' A xs :=
  ⟨h.1, fun i hi => by
    obtain ⟨a, ha, h0, h1⟩ := h.2 i hi
    have z := fun {p : Addr} {v : Value} (hc : w.cell? p = some v) => (hb.cell (World.block_lt_of_cell? w _ hc)).trans hc
    exact ⟨a, ha, z h0, z h1⟩⟩
theorem RdNode.addr {w : World} {A : Option Addr} {xs : List NodeM} (h : RdNode w A xs) {i : Nat} (hi : i < xs.length) : ∃ a, A = some a := by
  obtain ⟨a, ha, _⟩ := h.2 i hi
  exact ⟨a, ha⟩
theorem RdNode.at_ {w W : World} {a : Addr} {xs : List NodeM} (h : RdNode w (some a) xs) (hb : Below w.heap.size w W) {i : Nat} (hi : i < xs.length) : W.cell? (a.add (i * 2)) = some (.int .i64 (nodeAt xs i).id) ∧ W.cell? ⟨(a.add (i * 2)).block, (a.add (i * 2)).off + 1, none⟩ = some (.int .i64 (nodeAt xs i).alt) := by
  obtain ⟨a', ha, hc⟩ := (h.below hb).2 i hi
  cases ha; exact hc
theorem flat_node : ∀ (l : List NodeM) (i j : Nat), i < l.length → j < 2 → (l.flatMap nodeCells)[i * 2 + j]? = (nodeCells (nodeAt l i))[j]?
  | [], i, _, h, _ => by simp at h
  | e :: l, 0, j, _, hj => by
    rw [List.flatMap_cons, List.getElem?_append_left (by simp [nodeCells]; omega)]
    simp [nodeAt]
  | e :: l, i + 1, j, h, hj => by
    have hl : (nodeCells e).length = 2 := rfl
    rw [List.flatMap_cons, List.getElem?_append_right (by rw [hl]; omega), nodeAt_succ, ← flat_node l i j (by simpa using h) hj, hl]
    congr 1
    omega
theorem flat_node_len (l : List NodeM) : (l.flatMap nodeCells).length = l.length * 2 := by
  induction l with
  | nil => rfl
  | cons e l ih => rw [List.flatMap_cons, List.length_append, ih]; simp [nodeCells]; omega
structure LiftM where
  id : Int
  op : Int
  src : Int
  dst : Int
  len : Int
  speed : Int
  seats : Int
  space : Int
deriving DecidableEq
def lift0 : LiftM := ⟨0, 0, 0, 0, 0, 0, 0, 0⟩
def liftAt (l : List LiftM) (k : Nat) : LiftM := l.getD k lift0
theorem liftAt_eq {l : List LiftM} {k : Nat} (h : k < l.length) : l[k]? = some (liftAt l k) := by simp [liftAt, h]
theorem take_lift {l : List LiftM} {k : Nat} (h : k < l.length) : l.take (k + 1) = l.take k ++ [liftAt l k] := by
  rw [List.take_add_one, liftAt_eq h]; rfl
theorem liftAt_mem {l : List LiftM} {k : Nat} (h : k < l.length) : liftAt l k ∈ l := List.mem_of_getElem? (liftAt_eq h)
theorem mem_liftAt {l : List LiftM} {e : LiftM} (h : e ∈ l) : ∃ k, k < l.length ∧ liftAt l k = e := by
  obtain ⟨k, hk, he⟩ := List.mem_iff_getElem.1 h
  refine ⟨k, hk, ?_⟩
  have := liftAt_eq hk
  rw [List.getElem?_eq_getElem hk, he] at this
  exact (Option.some.inj this).symm
theorem drop_lift {l : List LiftM} {k : Nat} (h : k < l.length) : l.drop k = liftAt l k :: l.drop (k + 1) := by
  rw [List.drop_eq_getElem_cons h]
  congr 1
  have := liftAt_eq h
  rw [List.getElem?_eq_getElem h] at this
  exact Option.some.inj this
theorem liftAt_succ (e : LiftM) (l : List LiftM) (i : Nat) : liftAt (e :: l) (i + 1) = liftAt l i := by simp [liftAt]
def liftCells (e : LiftM) : List Value := [.int .i64 e.id, .int .i64 e.op, .int .i64 e.src, .int .i64 e.dst, .int .i64 e.len, .int .i64 e.speed, .int .i64 e.seats, .int .i64 e.space]
/-- The slice at A reads as xs. -/
def RdLift (w : World) (A : Option Addr) (xs : List LiftM) : Prop :=
  xs.length ≤ 9223372036854775807 ∧ ∀ i, i < xs.length → ∃ a, A = some a ∧ w.cell? (a.add (i * 8)) = some (.int .i64 (liftAt xs i).id) ∧ w.cell? ⟨(a.add (i * 8)).block, (a.add (i * 8)).off + 1, none⟩ = some (.int .i64 (liftAt xs i).op) ∧ w.cell? ⟨(a.add (i * 8)).block, (a.add (i * 8)).off + 2, none⟩ = some (.int .i64 (liftAt xs i).src) ∧ w.cell? ⟨(a.add (i * 8)).block, (a.add (i * 8)).off + 3, none⟩ = some (.int .i64 (liftAt xs i).dst) ∧ w.cell? ⟨(a.add (i * 8)).block, (a.add (i * 8)).off + 4, none⟩ = some (.int .i64 (liftAt xs i).len) ∧ w.cell? ⟨(a.add (i * 8)).block, (a.add (i * 8)).off + 5, none⟩ = some (.int .i64 (liftAt xs i).speed) ∧ w.cell? ⟨(a.add (i * 8)).block, (a.add (i * 8)).off + 6, none⟩ = some (.int .i64 (liftAt xs i).seats) ∧ w.cell? ⟨(a.add (i * 8)).block, (a.add (i * 8)).off + 7, none⟩ = some (.int .i64 (liftAt xs i).space)
theorem RdLift.below {w w' : World} {A : Option Addr} {xs : List LiftM} (h : RdLift w A xs) (hb : Below w.heap.size w w') : RdLift w' A xs :=
  ⟨h.1, fun i hi => by
    obtain ⟨a, ha, h0, h1, h2, h3, h4, h5, h6, h7⟩ := h.2 i hi
    have z := fun {p : Addr} {v : Value} (hc : w.cell? p = some v) => (hb.cell (World.block_lt_of_cell? w _ hc)).trans hc
    exact ⟨a, ha, z h0, z h1, z h2, z h3, z h4, z h5, z h6, z h7⟩⟩
theorem RdLift.addr {w : World} {A : Option Addr} {xs : List LiftM} (h : RdLift w A xs) {i : Nat} (hi : i < xs.length) : ∃ a, A = some a := by
  obtain ⟨a, ha, _⟩ := h.2 i hi
  exact ⟨a, ha⟩
theorem RdLift.at_ {w W : World} {a : Addr} {xs : List LiftM} (h : RdLift w (some a) xs) (hb : Below w.heap.size w W) {i : Nat} (hi : i < xs.length) : W.cell? (a.add (i * 8)) = some (.int .i64 (liftAt xs i).id) ∧ W.cell? ⟨(a.add (i * 8)).block, (a.add (i * 8)).off + 1, none⟩ = some (.int .i64 (liftAt xs i).op) ∧ W.cell? ⟨(a.add (i * 8)).block, (a.add (i * 8)).off + 2, none⟩ = some (.int .i64 (liftAt xs i).src) ∧ W.cell? ⟨(a.add (i * 8)).block, (a.add (i * 8)).off + 3, none⟩ = some (.int .i64 (liftAt xs i).dst) ∧ W.cell? ⟨(a.add (i * 8)).block, (a.add (i * 8)).off + 4, none⟩ = some (.int .i64 (liftAt xs i).len) ∧ W.cell? ⟨(a.add (i * 8)).block, (a.add (i * 8)).off + 5, none⟩ = some (.int .i64 (liftAt xs i).speed) ∧ W.cell? ⟨(a.add (i * 8)).block, (a.add (i * 8)).off + 6, none⟩ = some (.int .i64 (liftAt xs i).seats) ∧ W.cell? ⟨(a.add (i * 8)).block, (a.add (i * 8)).off + 7, none⟩ = some (.int .i64 (liftAt xs i).space) := by
  obtain ⟨a', ha, hc⟩ := (h.below hb).2 i hi
  cases ha; exact hc
theorem flat_lift : ∀ (l : List LiftM) (i j : Nat), i < l.length → j < 8 → (l.flatMap liftCells)[i * 8 + j]? = (liftCells (liftAt l i))[j]?
  | [], i, _, h, _ => by simp at h
  | e :: l, 0, j, _, hj => by
    rw [List.flatMap_cons, List.getElem?_append_left (by simp [liftCells]; omega)]
    simp [liftAt]
  | e :: l, i + 1, j, h, hj => by
    have hl : (liftCells e).length = 8 := rfl
    rw [List.flatMap_cons, List.getElem?_append_right (by rw [hl]; omega), liftAt_succ, ← flat_lift l i j (by simpa using h) hj, hl]
    congr 1
    omega
theorem flat_lift_len (l : List LiftM) : (l.flatMap liftCells).length = l.length * 8 := by
  induction l with
  | nil => rfl
  | cons e l ih => rw [List.flatMap_cons, List.length_append, ih]; simp [liftCells]; omega
structure RunM where
  id : Int
  op : Int
  src : Int
  dst : Int
  grade : Int
  zone : Int
  len : Int
deriving DecidableEq
def run0 : RunM := ⟨0, 0, 0, 0, 0, 0, 0⟩
def runAt (l : List RunM) (k : Nat) : RunM := l.getD k run0
theorem runAt_eq {l : List RunM} {k : Nat} (h : k < l.length) : l[k]? = some (runAt l k) := by simp [runAt, h]
theorem take_run {l : List RunM} {k : Nat} (h : k < l.length) : l.take (k + 1) = l.take k ++ [runAt l k] := by
  rw [List.take_add_one, runAt_eq h]; rfl
theorem runAt_mem {l : List RunM} {k : Nat} (h : k < l.length) : runAt l k ∈ l := List.mem_of_getElem? (runAt_eq h)
theorem mem_runAt {l : List RunM} {e : RunM} (h : e ∈ l) : ∃ k, k < l.length ∧ runAt l k = e := by
  obtain ⟨k, hk, he⟩ := List.mem_iff_getElem.1 h
  refine ⟨k, hk, ?_⟩
  have := runAt_eq hk
  rw [List.getElem?_eq_getElem hk, he] at this
  exact (Option.some.inj this).symm
theorem drop_run {l : List RunM} {k : Nat} (h : k < l.length) : l.drop k = runAt l k :: l.drop (k + 1) := by
  rw [List.drop_eq_getElem_cons h]
  congr 1
  have := runAt_eq h
  rw [List.getElem?_eq_getElem h] at this
  exact Option.some.inj this
theorem runAt_succ (e : RunM) (l : List RunM) (i : Nat) : runAt (e :: l) (i + 1) = runAt l i := by simp [runAt]
def runCells (e : RunM) : List Value := [.int .i64 e.id, .int .i64 e.op, .int .i64 e.src, .int .i64 e.dst, .int .i64 e.grade, .int .i64 e.zone, .int .i64 e.len]
/-- The slice at A reads as xs. -/
def RdRun (w : World) (A : Option Addr) (xs : List RunM) : Prop :=
  xs.length ≤ 9223372036854775807 ∧ ∀ i, i < xs.length → ∃ a, A = some a ∧ w.cell? (a.add (i * 7)) = some (.int .i64 (runAt xs i).id) ∧ w.cell? ⟨(a.add (i * 7)).block, (a.add (i * 7)).off + 1, none⟩ = some (.int .i64 (runAt xs i).op) ∧ w.cell? ⟨(a.add (i * 7)).block, (a.add (i * 7)).off + 2, none⟩ = some (.int .i64 (runAt xs i).src) ∧ w.cell? ⟨(a.add (i * 7)).block, (a.add (i * 7)).off + 3, none⟩ = some (.int .i64 (runAt xs i).dst) ∧ w.cell? ⟨(a.add (i * 7)).block, (a.add (i * 7)).off + 4, none⟩ = some (.int .i64 (runAt xs i).grade) ∧ w.cell? ⟨(a.add (i * 7)).block, (a.add (i * 7)).off + 5, none⟩ = some (.int .i64 (runAt xs i).zone) ∧ w.cell? ⟨(a.add (i * 7)).block, (a.add (i * 7)).off + 6, none⟩ = some (.int .i64 (runAt xs i).len)
theorem RdRun.below {w w' : World} {A : Option Addr} {xs : List RunM} (h : RdRun w A xs) (hb : Below w.heap.size w w') : RdRun w' A xs :=
  ⟨h.1, fun i hi => by
    obtain ⟨a, ha, h0, h1, h2, h3, h4, h5, h6⟩ := h.2 i hi
    have z := fun {p : Addr} {v : Value} (hc : w.cell? p = some v) => (hb.cell (World.block_lt_of_cell? w _ hc)).trans hc
    exact ⟨a, ha, z h0, z h1, z h2, z h3, z h4, z h5, z h6⟩⟩
theorem RdRun.addr {w : World} {A : Option Addr} {xs : List RunM} (h : RdRun w A xs) {i : Nat} (hi : i < xs.length) : ∃ a, A = some a := by
  obtain ⟨a, ha, _⟩ := h.2 i hi
  exact ⟨a, ha⟩
theorem RdRun.at_ {w W : World} {a : Addr} {xs : List RunM} (h : RdRun w (some a) xs) (hb : Below w.heap.size w W) {i : Nat} (hi : i < xs.length) : W.cell? (a.add (i * 7)) = some (.int .i64 (runAt xs i).id) ∧ W.cell? ⟨(a.add (i * 7)).block, (a.add (i * 7)).off + 1, none⟩ = some (.int .i64 (runAt xs i).op) ∧ W.cell? ⟨(a.add (i * 7)).block, (a.add (i * 7)).off + 2, none⟩ = some (.int .i64 (runAt xs i).src) ∧ W.cell? ⟨(a.add (i * 7)).block, (a.add (i * 7)).off + 3, none⟩ = some (.int .i64 (runAt xs i).dst) ∧ W.cell? ⟨(a.add (i * 7)).block, (a.add (i * 7)).off + 4, none⟩ = some (.int .i64 (runAt xs i).grade) ∧ W.cell? ⟨(a.add (i * 7)).block, (a.add (i * 7)).off + 5, none⟩ = some (.int .i64 (runAt xs i).zone) ∧ W.cell? ⟨(a.add (i * 7)).block, (a.add (i * 7)).off + 6, none⟩ = some (.int .i64 (runAt xs i).len) := by
  obtain ⟨a', ha, hc⟩ := (h.below hb).2 i hi
  cases ha; exact hc
theorem flat_run : ∀ (l : List RunM) (i j : Nat), i < l.length → j < 7 → (l.flatMap runCells)[i * 7 + j]? = (runCells (runAt l i))[j]?
  | [], i, _, h, _ => by simp at h
  | e :: l, 0, j, _, hj => by
    rw [List.flatMap_cons, List.getElem?_append_left (by simp [runCells]; omega)]
    simp [runAt]
  | e :: l, i + 1, j, h, hj => by
    have hl : (runCells e).length = 7 := rfl
    rw [List.flatMap_cons, List.getElem?_append_right (by rw [hl]; omega), runAt_succ, ← flat_run l i j (by simpa using h) hj, hl]
    congr 1
    omega
theorem flat_run_len (l : List RunM) : (l.flatMap runCells).length = l.length * 7 := by
  induction l with
  | nil => rfl
  | cons e l ih => rw [List.flatMap_cons, List.length_append, ih]; simp [runCells]; omega
end Go.Proofs.Ytoeiongnjogpeaa
namespace Go.Proofs.Ytoeiongnjogpeaa
open Go.RowKit
/-- A whole number of 64 bits. -/
def w64 (n : Int) : Prop := -9223372036854775808 ≤ n ∧ n ≤ 9223372036854775807
theorem setc_below {B H j : Nat} {w W : World} (h : Below B w W) (hB : B ≤ H) (v : Value) : Below B w (W.setCell ⟨H, j, none⟩ v) :=
  ⟨h.os, h.tape, h.output, by have := h.size; simpa [World.setCell] using this, fun k hk => (Below.heap_setCell _ _ _ _ (fun e => by have e2 : k = H := e; omega)).trans (h.block k hk)⟩
theorem setc_heap {W : World} {H : Nat} {cur : Array Value} {T : TypeId} (h : W.heap[H]? = some (.cells cur T (0, 0))) (j : Nat) (v : Value) : (W.setCell ⟨H, j, none⟩ v).heap[H]? = some (.cells (cur.setIfInBounds j v) T (0, 0)) := by
  simp [World.setCell, Array.getElem?_modify, h]
/-- A whole struct stored into a block. -/
theorem setcs {w W : World} {B H : Nat} {T : TypeId} {cur : Array Value} (vs : Array Value) (hb : Below B w W) (hB : B ≤ H) (h : W.heap[H]? = some (.cells cur T (0, 0))) (hl : vs.size ≤ cur.size) :
    W.there H 0 vs.size ∧ Below B w (W.setCells H 0 vs.toList) ∧ (∀ j u, vs[j]? = some u → (W.setCells H 0 vs.toList).cell? ⟨H, j, none⟩ = some u) ∧ ∀ k, k ≠ H → k < W.heap.size → (W.setCells H 0 vs.toList).heap[k]? = W.heap[k]? := by
  obtain ⟨cur', h1, h2, _, h4, h5⟩ := setCells_block vs.toList 0 W cur h (by simpa using hl)
  refine ⟨fun j hj => ⟨?_, ?_⟩, hb.grown h5 (by have := (Array.getElem?_eq_some_iff.1 h).1; omega) (fun k hk => by cases hk; exact hB), fun j u hu => ?_, fun k hk hl => h5.block k hl (fun e => hk (Option.some.inj e))⟩
  · have : j < cur.size := by omega
    simp [World.cell?, h, this]
  · simp [World.frozen?, h]
  · have := h4 j u (by simpa using hu)
    rw [Nat.zero_add] at this
    simp [World.cell?, h1, this]
/-- An index, or -1. -/
def ixOf (k n : Nat) : Int := if k < n then (k : Int) else -1
structure MapA where
  N : Option Addr
  L : Option Addr
  R : Option Addr
  B : Option Addr
  n : Nat
  l : Nat
  r : Nat
  b : Nat
structure MapM where
  nodes : List NodeM
  lifts : List LiftM
  runs : List RunM
  bases : List Int
abbrev mapV (V : MapA) (m : MapM) : Value := .agg #[.slice V.N m.nodes.length V.n, .slice V.L m.lifts.length V.l, .slice V.R m.runs.length V.r, .slice V.B m.bases.length V.b]
def mapC (V : MapA) (m : MapM) : List Value := [.slice V.N m.nodes.length V.n, .slice V.L m.lifts.length V.l, .slice V.R m.runs.length V.r, .slice V.B m.bases.length V.b]
structure RdM (w : World) (V : MapA) (m : MapM) : Prop where
  nodes : RdNode w V.N m.nodes
  lifts : RdLift w V.L m.lifts
  runs : RdRun w V.R m.runs
  bases : RdI w V.B m.bases
theorem RdM.below {w w' : World} {V : MapA} {m : MapM} (h : RdM w V m) (hb : Below w.heap.size w w') : RdM w' V m := ⟨h.nodes.below hb, h.lifts.below hb, h.runs.below hb, h.bases.below hb⟩
end Go.Proofs.Ytoeiongnjogpeaa
namespace Go.Proofs.Ytoeiongnjogpeaa
open Go.RowKit
theorem rdNode_new (W : World) (xs : List NodeM) (h : xs.length ≤ 100000) (b : Nat) (hb : b = W.heap.size) (cs : Array Value) (hcs : cs.toList = xs.flatMap nodeCells) (t : TypeId) : RdNode (W.alloc (.cells cs t)) (some ⟨b, 0, none⟩) xs :=
  ⟨by omega, fun i hi => ⟨_, rfl, (by have h := box_cells W cs t b hb (i * 2 + 0) _ (by rw [hcs, flat_node xs i 0 hi (by omega)]; rfl); rw [Addr.add_lit, Nat.zero_add] at h; rw [Addr.add_lit, Nat.zero_add]; exact h), (by have h := box_cells W cs t b hb (i * 2 + 1) _ (by rw [hcs, flat_node xs i 1 hi (by omega)]; rfl); rw [Addr.add_lit, Nat.zero_add] at h; rw [Addr.add_lit]; simp only [Nat.zero_add]; exact h)⟩⟩
theorem rdLift_new (W : World) (xs : List LiftM) (h : xs.length ≤ 100000) (b : Nat) (hb : b = W.heap.size) (cs : Array Value) (hcs : cs.toList = xs.flatMap liftCells) (t : TypeId) : RdLift (W.alloc (.cells cs t)) (some ⟨b, 0, none⟩) xs :=
  ⟨by omega, fun i hi => ⟨_, rfl, (by have h := box_cells W cs t b hb (i * 8 + 0) _ (by rw [hcs, flat_lift xs i 0 hi (by omega)]; rfl); rw [Addr.add_lit, Nat.zero_add] at h; rw [Addr.add_lit, Nat.zero_add]; exact h), (by have h := box_cells W cs t b hb (i * 8 + 1) _ (by rw [hcs, flat_lift xs i 1 hi (by omega)]; rfl); rw [Addr.add_lit, Nat.zero_add] at h; rw [Addr.add_lit]; simp only [Nat.zero_add]; exact h), (by have h := box_cells W cs t b hb (i * 8 + 2) _ (by rw [hcs, flat_lift xs i 2 hi (by omega)]; rfl); rw [Addr.add_lit, Nat.zero_add] at h; rw [Addr.add_lit]; simp only [Nat.zero_add]; exact h), (by have h := box_cells W cs t b hb (i * 8 + 3) _ (by rw [hcs, flat_lift xs i 3 hi (by omega)]; rfl); rw [Addr.add_lit, Nat.zero_add] at h; rw [Addr.add_lit]; simp only [Nat.zero_add]; exact h), (by have h := box_cells W cs t b hb (i * 8 + 4) _ (by rw [hcs, flat_lift xs i 4 hi (by omega)]; rfl); rw [Addr.add_lit, Nat.zero_add] at h; rw [Addr.add_lit]; simp only [Nat.zero_add]; exact h), (by have h := box_cells W cs t b hb (i * 8 + 5) _ (by rw [hcs, flat_lift xs i 5 hi (by omega)]; rfl); rw [Addr.add_lit, Nat.zero_add] at h; rw [Addr.add_lit]; simp only [Nat.zero_add]; exact h), (by have h := box_cells W cs t b hb (i * 8 + 6) _ (by rw [hcs, flat_lift xs i 6 hi (by omega)]; rfl); rw [Addr.add_lit, Nat.zero_add] at h; rw [Addr.add_lit]; simp only [Nat.zero_add]; exact h), (by have h := box_cells W cs t b hb (i * 8 + 7) _ (by rw [hcs, flat_lift xs i 7 hi (by omega)]; rfl); rw [Addr.add_lit, Nat.zero_add] at h; rw [Addr.add_lit]; simp only [Nat.zero_add]; exact h)⟩⟩
theorem rdRun_new (W : World) (xs : List RunM) (h : xs.length ≤ 100000) (b : Nat) (hb : b = W.heap.size) (cs : Array Value) (hcs : cs.toList = xs.flatMap runCells) (t : TypeId) : RdRun (W.alloc (.cells cs t)) (some ⟨b, 0, none⟩) xs :=
  ⟨by omega, fun i hi => ⟨_, rfl, (by have h := box_cells W cs t b hb (i * 7 + 0) _ (by rw [hcs, flat_run xs i 0 hi (by omega)]; rfl); rw [Addr.add_lit, Nat.zero_add] at h; rw [Addr.add_lit, Nat.zero_add]; exact h), (by have h := box_cells W cs t b hb (i * 7 + 1) _ (by rw [hcs, flat_run xs i 1 hi (by omega)]; rfl); rw [Addr.add_lit, Nat.zero_add] at h; rw [Addr.add_lit]; simp only [Nat.zero_add]; exact h), (by have h := box_cells W cs t b hb (i * 7 + 2) _ (by rw [hcs, flat_run xs i 2 hi (by omega)]; rfl); rw [Addr.add_lit, Nat.zero_add] at h; rw [Addr.add_lit]; simp only [Nat.zero_add]; exact h), (by have h := box_cells W cs t b hb (i * 7 + 3) _ (by rw [hcs, flat_run xs i 3 hi (by omega)]; rfl); rw [Addr.add_lit, Nat.zero_add] at h; rw [Addr.add_lit]; simp only [Nat.zero_add]; exact h), (by have h := box_cells W cs t b hb (i * 7 + 4) _ (by rw [hcs, flat_run xs i 4 hi (by omega)]; rfl); rw [Addr.add_lit, Nat.zero_add] at h; rw [Addr.add_lit]; simp only [Nat.zero_add]; exact h), (by have h := box_cells W cs t b hb (i * 7 + 5) _ (by rw [hcs, flat_run xs i 5 hi (by omega)]; rfl); rw [Addr.add_lit, Nat.zero_add] at h; rw [Addr.add_lit]; simp only [Nat.zero_add]; exact h), (by have h := box_cells W cs t b hb (i * 7 + 6) _ (by rw [hcs, flat_run xs i 6 hi (by omega)]; rfl); rw [Addr.add_lit, Nat.zero_add] at h; rw [Addr.add_lit]; simp only [Nat.zero_add]; exact h)⟩⟩
end Go.Proofs.Ytoeiongnjogpeaa
