/- Proved here: the function path of the package flow walks the table back. Condition: the table is one of the search. -/
import Derived.Test.YtambnjhopijkfaaBfs
import Derived.Maps.Own
namespace Go.Proofs.Ytambnjhopijkfaa
open Go.RowKit
/-- The node from which a step leads. -/
def prevN (l : List Edge) (p : Nat × Bool) : Int := if p.2 then (edAt l p.1).dst else (edAt l p.1).src
/-- The steps that the map m tells, from t back to s. -/
def Follow (l : List Edge) (m : Int → Option (Int × Bool)) (s : Int) : Int → List (Nat × Bool) → Prop
  | t, [] => t = s
  | t, p :: ps => t ≠ s ∧ m t = some ((p.1 : Int), p.2) ∧ p.1 < l.length ∧ Follow l m s (prevN l p) ps
def stepCells (p : Nat × Bool) : List Value := [.int .i64 p.1, .bool p.2]
theorem steps_length (ps : List (Nat × Bool)) : (ps.flatMap stepCells).length = ps.length * 2 := by
  induction ps with
  | nil => rfl
  | cons p ps ih => simp only [List.flatMap_cons, List.length_append, ih, List.length_cons, stepCells]; simp; omega

set_option maxHeartbeats 1000000 in
/-- flow.path -/
theorem path_any (A : Option Addr) (c : Nat) (l : List Edge) (bm n : Nat) (m : Int → Option (Int × Bool)) (s t : Int) (full : List (Nat × Bool)) (w : World) (hl : RdE w A l) (hi : IMap.IM w bm n (fun k => (m k).map stepV))
    (hf : Follow l m s t full) (hlen : full.length ≤ 1000000) :
    Calls Try.prog 32 #[.slice A l.length c, .map (some bm), .int .i64 s, .int .i64 t] w fun e w' => ∃ v, e = .returned v ∧ OwnS 46 2 w' w.heap.size v full.length (full.flatMap stepCells) ∧ Below w.heap.size w w' := by
  have hm := hl.1
  have HL := Lib.hid hl
  have HI := Lib.hid hi
  have HF := Lib.hid hf
  clear hl hi hf
  go_enter Try.func32, Try.ntmps32
  go_wp2
  go_loopg [3, 9] full.length (fun g tv ov wr => ∃ (done rest : List (Nat × Bool)) (x : Int), g = rest.length ∧ tv = .int .i64 x ∧ Hid (full = done ++ rest) ∧ Hid (Follow l m s x rest) ∧ Hid (OwnS 46 2 wr w.heap.size ov done.length (done.flatMap stepCells)) ∧ Hid (Below w.heap.size w wr))
  case atStart => exact ⟨[], full, t, rfl, rfl, rfl, HF.out, OwnS.nil _ _ _ _, Below.refl _ _⟩
  case round =>
    clear HF
    obtain ⟨done, rest, x, hg, rfl, HE, HF, HO, HB⟩ := hrel
    cases rest with
    | nil =>
      have hx : (x != s) = false := bne_eq_false_iff_eq.2 HF.out
      go_wp2
      go_ret
      exact ⟨_, rfl, by have := HE.out; simp at this; subst this; exact HO.out, HB.out⟩
    | cons p ps =>
      obtain ⟨h1, h2, h3, h4⟩ := HF.out
      have hx : (x != s) = true := by simpa using h1
      have hlk := (HI.out.below HB.out HI.out.lt).lookup (P := Try.prog) Try.underlying43 Try.underlying3 (z := stepV (0, false)) (by kernel_rfl) x
      rw [h2] at hlk
      simp only [Option.map_some, Option.getD_some, stepV] at hlk
      obtain ⟨j, b⟩ := p
      obtain ⟨a, rfl⟩ := HL.out.addr h3
      obtain ⟨A0, c0, rfl, hc1, hc2⟩ := HO.out.slice
      have hd : done.length ≤ 1000000 := by have := congrArg List.length HE.out; simp at this; omega
      have H4 := Lib.hid h4
      have HB' := Lib.hid HB.out.size
      clear h1 h2 h4 HF
      go_wp2_with (at_builtin; refine OwnS.wp_append rfl _ _ 48 rfl 46 (.agg #[.int .i64 0, .bool false]) 2 16 Try.underlying48 (by kernel_rfl) rfl (by omega) (by omega) w.heap.size done.length _ (done.flatMap stepCells) rfl ((HO.out.alloc _).alloc _) ⟨_, 0, none⟩ 1 (stepCells (j, b)) rfl rfl (box_cells _ #[.int .i64 (j : Int), .bool b] 46 _ (by simp)) (by simp [stepCells, Value.oneCell']) (by omega) (by have := HB'.out; simp; omega) ?_)
      intro v' w2 ho2 hg2 _
      obtain ⟨A2, c2, rfl, hc3, hc4⟩ := ho2.slice
      have hne : ∀ (i : Nat) (cs : Array Value) (t : TypeId) (fr : Nat × Nat), ((wr.alloc (.cells #[.int .i64 (j : Int), .bool b] 46)).alloc (.cells #[.int .i64 (j : Int), .bool b] 46)).heap[i]? = some (.cells cs t fr) → i < w.heap.size ∨ (Value.slice A0 done.length c0).ownBlock ≠ some i → w2.heap[i]? = some (.cells cs t fr) := by
        intro i cs t fr hi hor
        rw [hg2.block i (Array.getElem?_eq_some_iff.1 hi).1 (fun e => ?_)]
        · exact hi
        · rcases hor with h | h
          · have := (HO.out.block e.symm).1; omega
          · exact h e.symm
      have hbox : w2.heap[wr.heap.size]? = some (.cells #[.int .i64 (j : Int), .bool b] 46 (0, 0)) := by
        refine hne _ _ _ _ ?_ (.inr fun e => ?_)
        · rw [heap_alloc_old _ _ (by simp)]; exact heap_alloc_new _ _
        · have := (HO.out.block e).2.1; omega
      have y0 := block_cell hbox (j := 0) (v := .int .i64 (j : Int)) rfl
      have y1 := block_cell hbox (j := 1) (v := .bool b) rfl
      have hb2 : Below w.heap.size w w2 := ((HB.out.alloc HB.out.size _).alloc (by have := HB'.out; simp; omega) _).grown hg2 (by have := HB'.out; simp; omega) (fun i hi => (HO.out.block hi).1)
      obtain ⟨z0, z1, z2, z3⟩ := HL.out.at_ hb2 h3
      have i1 : ((j : Int) < (l.length : Int)) := by omega
      have HB2 := Lib.hid hb2
      have HO2 := Lib.hid ho2
      have HX := Lib.hid (show full = (done ++ [(j, b)]) ++ ps by rw [HE.out]; simp)
      have HO3 : Hid (OwnS 46 2 w2 w.heap.size (.slice A2 (done.length + 1) c2) (done ++ [(j, b)]).length ((done ++ [(j, b)]).flatMap stepCells)) := by
        rw [List.flatMap_append, List.length_append]
        exact ho2
      clear hne hbox hb2 ho2 hg2 hlk HE HO HO2
      cases b
      all_goals
        go_wp2
        cases gk with
        | zero => simp at hg
        | succ g1 =>
          go_roundg g1
          case measure => omega
          case rel => exact ⟨_, ps, _, by simp at hg; omega, rfl, HX.out, H4.out, HO3.out, HB2.out⟩
end Go.Proofs.Ytambnjhopijkfaa
