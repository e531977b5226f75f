/- Proved here: the reference function search returns the nodes that can be reached, in the order of a search by rounds, and for each by which edge. Conditions: the slices read as edges and as numbers of one length, at most 200. -/
import Derived.Test.YtambnjhopijkfaaFind
import Derived.Test.YtambnjhopijkfaaRefA
namespace Go.Proofs.Ytambnjhopijkfaa
open Go.RowKit
def encV (p : Int × Bool) : Int := if p.2 then -p.1 - 1 else p.1 + 1
def viaM (s : Int) (m : Int → Option (Int × Bool)) (k : Int) : Int := if k = s then 0 else match m k with | some p => encV p | none => 0
/-- The two lists of search: the nodes, and by which edge. -/
structure SI (l : List Edge) (f : List Int) (s : Int) (w wx : World) (v1 v2 : Value) (m : Int → Option (Int × Bool)) (ord : List Int) : Prop where
  bfs : BFS l f s m ord
  o1 : OwnS 3 1 wx w.heap.size v1 ord.length (ord.map (Value.int .i64))
  o2 : OwnS 3 1 wx w.heap.size v2 ord.length ((ord.map (viaM s m)).map (Value.int .i64))
  ne : ∀ k, v1.ownBlock = some k → v2.ownBlock ≠ some k
  below : Below w.heap.size w wx
section
variable {l : List Edge} {f : List Int} {s : Int} {w wr : World} {v1 v2 : Value} {m : Int → Option (Int × Bool)} {ord : List Int}
theorem SI.drewN (h : SI l f s w wr v1 v2 m ord) (n : Nat) : SI l f s w (wr.drewN n) v1 v2 m ord := ⟨h.bfs, h.o1.drewN n, h.o2.drewN n, h.ne, below_drewN h.below n⟩
theorem SI.mid2 (h : SI l f s w wr v1 v2 m ord) {o1 : Obj} {wb : World} (hg1 : (wr.alloc o1).grownBy wb v1.ownBlock) : OwnS 3 1 wb w.heap.size v2 ord.length ((ord.map (viaM s m)).map (Value.int .i64)) :=
  (h.o2.alloc o1).grown hg1 fun k hk e => h.ne k e.symm hk
theorem SI.hit (h : SI l f s w wr v1 v2 m ord) {j : Nat} {b : Bool} {u k : Int} (hno : ¬ k ∈ ord) (hr : Res l f j b u k) (hu : u ∈ ord) {o1 o2 : Obj} {wb wd : World} {v1' v2' : Value}
    (ho1 : OwnS 3 1 wb w.heap.size v1' (ord.length + 1) (ord.map (Value.int .i64) ++ [.int .i64 k])) (hg1 : (wr.alloc o1).grownBy wb v1.ownBlock) (hor1 : v1'.ownBlock = v1.ownBlock ∨ ∃ k, v1'.ownBlock = some k ∧ wr.heap.size + 1 ≤ k)
    (ho2 : OwnS 3 1 wd w.heap.size v2' (ord.length + 1) ((ord.map (viaM s m)).map (Value.int .i64) ++ [.int .i64 (encV (j, b))])) (hg2 : (wb.alloc o2).grownBy wd v2.ownBlock) (hor2 : v2'.ownBlock = v2.ownBlock ∨ ∃ k, v2'.ownBlock = some k ∧ wb.heap.size + 1 ≤ k) :
    SI l f s w wd v1' v2' (updS m k ((j : Int), b)) (ord ++ [k]) := by
  have hmk : ¬ (m k).isSome = true := fun hh => hno ((h.bfs.keys k).1 hh)
  have hb := (h.bfs.visit hr hu).1
  unfold mx ox at hb
  rw [if_neg hmk, if_neg hmk] at hb
  have hs0 : s ∈ ord := by obtain ⟨r, hr⟩ := h.bfs.head; rw [hr]; simp
  have hks : k ≠ s := fun e => hno (e ▸ hs0)
  have hv : (ord ++ [k]).map (viaM s (updS m k ((j : Int), b))) = ord.map (viaM s m) ++ [encV (j, b)] := by
    rw [List.map_append]
    congr 1
    · apply List.map_congr_left
      intro x hx
      have hxk : x ≠ k := fun e => hno (e ▸ hx)
      unfold viaM updS
      rw [if_neg hxk]
    · simp [viaM, updS, hks]
  have hne12 : ∀ k, v1'.ownBlock = some k → v2.ownBlock ≠ some k := fun k hk e => by
    rcases hor1 with h' | ⟨k', hk', hle⟩
    · exact h.ne k (h' ▸ hk) e
    · rw [hk] at hk'
      cases hk'
      have := (h.o2.block e).2.1
      omega
  refine ⟨hb, ?_, ?_, fun k hk e => ?_, ?_⟩
  · have := (ho1.alloc o2).grown hg2 (fun k hk e => hne12 k hk e.symm)
    simpa using this
  · rw [hv]
    simpa using ho2
  · rcases hor2 with h' | ⟨k', hk', hle⟩
    · exact hne12 k hk (h' ▸ e)
    · rw [e] at hk'
      cases hk'
      have := (ho1.block hk).2.1
      omega
  · have hb1 : Below w.heap.size w wb := (h.below.alloc h.below.size o1).grown hg1 (by have := h.below.size; simp; omega) (fun k hk => (h.o1.block hk).1)
    exact (hb1.alloc hb1.size o2).grown hg2 (by have := hb1.size; simp; omega) (fun k hk => (h.o2.block hk).1)
end
/-- Between two edges of a node u = ord[i]. -/
structure SJ (l : List Edge) (f : List Int) (s : Int) (w wx : World) (v1 v2 : Value) (i : Nat) (u : Int) (k : Nat) (m : Int → Option (Int × Bool)) (ord : List Int) : Prop where
  si : SI l f s w wx v1 v2 m ord
  here : ord[i]? = some u
  shut : ∀ x, x ∈ ord.take i → Shut l f x l.length ord
  now : Shut l f u k ord
section
variable {l : List Edge} {f : List Int} {s : Int} {w wr wd : World} {v1 v2 v1' v2' : Value} {m m' : Int → Option (Int × Bool)} {ord : List Int} {i k : Nat} {u x : Int}
theorem SJ.drewN (h : SJ l f s w wr v1 v2 i u k m ord) (n : Nat) : SJ l f s w (wr.drewN n) v1 v2 i u k m ord := ⟨h.si.drewN n, h.here, h.shut, h.now⟩
theorem SJ.more (h : SJ l f s w wr v1 v2 i u k m ord) (h' : SI l f s w wd v1' v2' m' (ord ++ [x])) : SJ l f s w wd v1' v2' i u k m' (ord ++ [x]) := by
  have hi := (List.getElem?_eq_some_iff.1 h.here).1
  have hp : ord <+: ord ++ [x] := List.prefix_append _ _
  refine ⟨h', by rw [List.getElem?_append_left hi]; exact h.here, fun y hy => ?_, h.now.more hp⟩
  rw [List.take_append_of_le_length (by omega)] at hy
  exact (h.shut y hy).more hp
theorem SJ.next (h : SJ l f s w wr v1 v2 i u k m ord) (h1 : (edAt l k).src = u → numAt f k < (edAt l k).cost → (edAt l k).dst ∈ ord) (h2 : (edAt l k).dst = u → 0 < numAt f k → (edAt l k).src ∈ ord) : SJ l f s w wr v1 v2 i u (k + 1) m ord :=
  ⟨h.si, h.here, h.shut, h.now.succ h1 h2⟩
end
end Go.Proofs.Ytambnjhopijkfaa
