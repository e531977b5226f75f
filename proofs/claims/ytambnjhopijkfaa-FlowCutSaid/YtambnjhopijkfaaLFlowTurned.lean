/- Proved here: the law FlowTurned returns true for all arguments that read as edges, and changes nothing that was there before. -/
import Derived.Test.YtambnjhopijkfaaAlive
import Derived.Test.YtambnjhopijkfaaMore
import Derived.Deep.RegionHeld3
namespace Go.Proofs.Ytambnjhopijkfaa
open Go.RowKit
def edgeCells (e : Edge) : List Value := [.int .i64 e.id, .int .i64 e.src, .int .i64 e.dst, .int .i64 e.cost]
theorem flat_at : ∀ (l : List Edge) (i j : Nat), i < l.length → j < 4 → (l.flatMap edgeCells)[i * 4 + j]? = (edgeCells (edAt l i))[j]?
  | [], i, _, h, _ => by simp at h
  | e :: l, 0, j, _, hj => by
    rw [List.flatMap_cons, List.getElem?_append_left (by simp [edgeCells]; omega)]
    simp [edAt]
  | e :: l, i + 1, j, h, hj => by
    rw [List.flatMap_cons, List.getElem?_append_right (by simp [edgeCells]; omega), edAt_cons_succ, ← flat_at l i j (by simpa using h) hj]
    congr 1
    simp [edgeCells]; omega
theorem flat_len (l : List Edge) : (l.flatMap edgeCells).length = l.length * 4 := by
  induction l with
  | nil => rfl
  | cons e l ih => rw [List.flatMap_cons, List.length_append, ih]; simp [edgeCells]; omega
/-- A slice of the call's own, of edges, reads as edges. -/
theorem OwnS.rdE {W : World} {B : Nat} {A : Option Addr} {c : Nat} {l : List Edge} (h : OwnS 34 4 W B (.slice A l.length c) l.length (l.flatMap edgeCells)) (hm : l.length ≤ 1000) : RdE W A l := by
  refine ⟨by omega, fun i hi => ?_⟩
  have hs : i * 4 + 4 ≤ (l.flatMap edgeCells).length := by rw [flat_len]; omega
  obtain ⟨g, o, rfl, h0, _⟩ := h.cell (flat_at l i 0 hi (by omega))
  obtain ⟨g1, o1, e1, h1, _⟩ := h.cell (flat_at l i 1 hi (by omega))
  obtain ⟨g2, o2, e2, h2, _⟩ := h.cell (flat_at l i 2 hi (by omega))
  obtain ⟨g3, o3, e3, h3, _⟩ := h.cell (flat_at l i 3 hi (by omega))
  simp only [Option.some.injEq, Addr.mk.injEq, and_true] at e1 e2 e3
  obtain ⟨rfl, rfl⟩ := e1
  obtain ⟨rfl, rfl⟩ := e2
  obtain ⟨rfl, rfl⟩ := e3
  refine ⟨_, rfl, ?_, ?_, ?_, ?_⟩
  · rw [Addr.add_lit]; exact h0
  · rw [Addr.add_lit, Nat.add_assoc]; exact h1
  · rw [Addr.add_lit, Nat.add_assoc]; exact h2
  · rw [Addr.add_lit, Nat.add_assoc]; exact h3
set_option maxRecDepth 100000 in
set_option maxHeartbeats 4000000 in
theorem flowTurned_walk (A : Option Addr) (c : Nat) (l : List Edge) (s t : Int) (w : World) (hl : RdE w A l) :
    Calls Try.prog 9 #[.slice A l.length c, .int .i64 s, .int .i64 t] w fun e w' => e = .returned (.bool true) ∧ Below w.heap.size w w' := by
  have hm := hl.1
  have HA := Lib.hid (alive_any w)
  have HF := Lib.hid (fun W (h : Below w.heap.size w W) => few_any A c l W (hl.below h))
  have HM := Lib.hid (fun (hr : Right l) (s t : Int) W (h : Below w.heap.size w W) => max_any A c l s t W (hl.below h) hr)
  have HL := Lib.hid hl
  clear hl
  go_enter Try.func9, Try.ntmps9
  go_wp2_with fail
  refine HA.out.mono ?_
  rintro e w1 ⟨rfl, hb1⟩
  have HB1 := Lib.hid hb1
  clear hb1
  go_wp2_with fail
  refine (HF.out _ HB1.out).mono ?_
  rintro e w2 ⟨rfl, hb2⟩
  have HB2 := Lib.hid (HB1.out.trans (hb2.mono HB1.out.size))
  clear hb2
  by_cases hfew : fewB l = true
  · have hr : Right l := by
      simp only [fewB, Bool.and_eq_true] at hfew
      exact rightB_iff.1 hfew.2
    rw [hfew]
    have H200 := hr.len
    have HR := Lib.hid hr
    clear hr
    go_wp2_with fail
    go_loopg [7, 8] l.length (fun g ov iv wr => ∃ (i : Nat), g = l.length - i ∧ i ≤ l.length ∧ iv = .int .i64 (i : Int) ∧ Hid (OwnS 34 4 wr w.heap.size ov i (((l.take i).map turn).flatMap edgeCells)) ∧ Hid (Below w.heap.size w wr))
    case atStart => exact ⟨0, by omega, by omega, rfl, OwnS.nil _ _ _ _, HB2.out⟩
    case round =>
      obtain ⟨i, hg, hi, rfl, HO, HB⟩ := hrel
      by_cases hlt : i < l.length
      · have i1 : ((i : Int) < (l.length : Int)) := by omega
        obtain ⟨a, rfl⟩ := HL.out.addr hlt
        obtain ⟨A0, c0, rfl, hc1, hc2⟩ := HO.out.slice
        obtain ⟨z0, z1, z2, z3⟩ := HL.out.at_ HB.out hlt
        have i1 : ((i : Int) < (l.length : Int)) := by omega
        have HB' := Lib.hid HB.out.size
        have hby : Below w.heap.size w (wr.alloc (.cells #[.int .i64 (edAt l i).id, .int .i64 (edAt l i).dst, .int .i64 (edAt l i).src, .int .i64 (edAt l i).cost] 34)).drew := (HB.out.alloc HB.out.size _).drew
        have hy := HL.out.at_ hby hlt
        have HY := Lib.hid hy
        have HG := Lib.hid (fun (W : World) (hg : (wr.alloc (.cells #[.int .i64 (edAt l i).id, .int .i64 (edAt l i).dst, .int .i64 (edAt l i).src, .int .i64 (edAt l i).cost] 34)).drew.grownBy W (Value.slice A0 i c0).ownBlock) =>
          (hby.grown hg (by have := HB'.out; simp [World.drew]; omega) (fun k hk => (HO.out.block hk).1) : Below w.heap.size w W))
        have HG2 := Lib.hid (fun (W : World) (hg : (wr.alloc (.cells #[.int .i64 (edAt l i).id, .int .i64 (edAt l i).dst, .int .i64 (edAt l i).src, .int .i64 (edAt l i).cost] 34)).drew.grownBy W (Value.slice A0 i c0).ownBlock) => HL.out.at_ (HG.out W hg) hlt)
        clear hy hby
        go_wp2_with fail
        go_region_held3 (fun W : World => W.cell? (a.add (i * 4)) = some (.int .i64 (edAt l i).id) ∧
            W.cell? ⟨(a.add (i * 4)).block, (a.add (i * 4)).off + 1, none⟩ = some (.int .i64 (edAt l i).src) ∧
            W.cell? ⟨(a.add (i * 4)).block, (a.add (i * 4)).off + 2, none⟩ = some (.int .i64 (edAt l i).dst) ∧
            W.cell? ⟨(a.add (i * 4)).block, (a.add (i * 4)).off + 3, none⟩ = some (.int .i64 (edAt l i).cost)) (first | exact ⟨z0, z1, z2, z3⟩ | exact HY.out | exact HG2.out _ hg2)
          (first | (refine OwnS.step_append rfl _ _ 22 rfl 34 (.agg #[.int .i64 0, .int .i64 0, .int .i64 0, .int .i64 0]) 4 32 Try.underlying22 (by kernel_rfl) rfl (by omega) (by omega) w.heap.size i _ (((l.take i).map turn).flatMap edgeCells) rfl (HO.out.drew.alloc _) ⟨wr.heap.size, 0, none⟩ 1 (edgeCells (turn (edAt l i))) rfl rfl (box_cells _ #[.int .i64 (edAt l i).id, .int .i64 (edAt l i).dst, .int .i64 (edAt l i).src, .int .i64 (edAt l i).cost] 34 _ rfl) (by simp [edgeCells, Value.oneCell']) (by omega) (by have := HB'.out; simp; omega) ?_; intro v' w2 ho2 hg2 _))
        obtain ⟨A2, c2, rfl, hc3, hc4⟩ := ho2.slice
        have ho3 : OwnS 34 4 w2 w.heap.size (.slice A2 (i + 1) c2) (i + 1) (((l.take (i + 1)).map turn).flatMap edgeCells) := by
          rw [List.take_add_one, edAt_eq hlt]
          simpa using ho2
        have HO3 := Lib.hid ho3
        have HB3 := Lib.hid (HG.out _ hg2)
        clear ho2 ho3 hg2
        go_wp2_with fail
        cases gk with
        | zero => omega
        | succ g1 =>
          go_roundg g1
          case measure => omega
          case rel => exact ⟨i + 1, by omega, by omega, by go_num, HO3.out, HB3.out⟩
      · have hil : i = l.length := by omega
        subst hil
        have i1 : ¬ ((l.length : Int) < (l.length : Int)) := by omega
        obtain ⟨A0, c0, rfl, hc1, hc2⟩ := HO.out.slice
        have ht : RdE wr A0 (l.map turn) := by
          have h := HO.out
          rw [List.take_length] at h
          have h' : OwnS 34 4 wr w.heap.size (.slice A0 (l.map turn).length c0) (l.map turn).length ((l.map turn).flatMap edgeCells) := by rw [List.length_map]; exact h
          exact h'.rdE (by rw [List.length_map]; omega)
        have hx := max_any A0 c0 (l.map turn) t s wr ht HR.out.turn
        rw [List.length_map] at hx
        have HX := Lib.hid hx
        have hq : maxV (l.map turn) t s = maxV l s t := by
          by_cases hst : s = t
          · rw [hst, maxV_same, maxV_same]
          · obtain ⟨f, S, h1⟩ := exists_max A c l s t w HL.out HR.out hst
            obtain ⟨g, U, h2⟩ := exists_max A0 c0 (l.map turn) t s wr ht HR.out.turn (fun e => hst e.symm)
            exact maxV_turn hst h1 h2
        have HQ := Lib.hid hq
        have HZ := Lib.hid (maxV_same l s)
        clear hx ht hq
        go_wp2_with fail
        refine HX.out.mono ?_
        rintro e w3 ⟨rfl, hb3⟩
        have HB3 := Lib.hid (HB.out.trans (hb3.mono HB.out.size))
        clear hb3
        go_wp2_with fail
        refine (HM.out HR.out s t _ HB3.out).mono ?_
        rintro e w4 ⟨rfl, hb4⟩
        have HB4 := Lib.hid (HB3.out.trans (hb4.mono HB3.out.size))
        clear hb4
        rw [HQ.out]
        have ge : (maxV l s t == maxV l s t) = true := by simp
        go_wp2_with fail
        refine (HM.out HR.out s s _ HB4.out).mono ?_
        rintro e w5 ⟨rfl, hb5⟩
        have HB5 := Lib.hid (HB4.out.trans (hb5.mono HB4.out.size))
        clear hb5
        rw [HZ.out]
        go_wp2_with fail
        go_ret
        exact ⟨rfl, HB5.out⟩
  · simp only [Bool.not_eq_true] at hfew
    rw [hfew]
    go_wp2_with fail
    go_ret
    exact ⟨rfl, HB2.out⟩
end Go.Proofs.Ytambnjhopijkfaa
