/- Proved here: the reference functions turned and Back of chapter 05. Condition: the slices read as edges and numbers. -/
import Derived.Test.YtoeiongnjogpeaaReach5
import Derived.Test.YtoeiongnjogpeaaCloneE
namespace Go.Proofs.Ytoeiongnjogpeaa
open Go.RowKit
set_option maxRecDepth 100000 in
set_option maxHeartbeats 4000000 in
theorem rturned_any (A : Option Addr) (c : Nat) (l : List Edge) (w : World) (hl : RdE w A l) (h200 : l.length ≤ 1000) :
    Calls Try.prog 107 #[.slice A l.length c] w fun e w' => ∃ A' c', e = .returned (.slice A' l.length c') ∧ RdE w' A' (l.map turnE) ∧ Below w.heap.size w w' := by
  have hm := hl.1
  have HL := Lib.hid hl
  clear hl
  go_enter Try.func107, Try.ntmps107
  go_wp2_with fail
  go_loopg [3, 4] l.length (fun g ov iv wr => ∃ (i : Nat), g = l.length - i ∧ i ≤ l.length ∧ iv = .int .i64 (i : Int) ∧ Hid (OwnS 94 4 wr w.heap.size ov i (((l.take i).map turnE).flatMap edgeCells)) ∧ Hid (Below w.heap.size w wr))
  case atStart => exact ⟨0, by omega, by omega, rfl, OwnS.nil _ _ _ _, Below.refl _ _⟩
  case round =>
    obtain ⟨i, hg, hi, rfl, HO, HB⟩ := hrel
    by_cases hlt : i < l.length
    · have i1 : ((i : Int) < (l.length : Int)) := by omega
      obtain ⟨a, rfl⟩ := HL.out.addr hlt
      obtain ⟨A0, c0, rfl, hc1, hc2⟩ := HO.out.slice
      obtain ⟨z0, z1, z2, z3⟩ := HL.out.at_ HB.out hlt
      have HB' := Lib.hid HB.out.size
      have hby : Below w.heap.size w (wr.alloc (.cells #[.int .i64 (edAt l i).id, .int .i64 (edAt l i).dst, .int .i64 (edAt l i).src, .int .i64 (edAt l i).cost] 94)).drew := (HB.out.alloc HB.out.size _).drew
      have hy := HL.out.at_ hby hlt
      have HY := Lib.hid hy
      have HG := Lib.hid (fun (W : World) (hg : (wr.alloc (.cells #[.int .i64 (edAt l i).id, .int .i64 (edAt l i).dst, .int .i64 (edAt l i).src, .int .i64 (edAt l i).cost] 94)).drew.grownBy W (Value.slice A0 i c0).ownBlock) =>
        (hby.grown hg (by have := HB'.out; simp [World.drew]; omega) (fun k hk => (HO.out.block hk).1) : Below w.heap.size w W))
      have HG2 := Lib.hid (fun (W : World) (hg : (wr.alloc (.cells #[.int .i64 (edAt l i).id, .int .i64 (edAt l i).dst, .int .i64 (edAt l i).src, .int .i64 (edAt l i).cost] 94)).drew.grownBy W (Value.slice A0 i c0).ownBlock) => HL.out.at_ (HG.out W hg) hlt)
      clear hy hby
      go_wp2_with fail
      go_region_held3 (fun W : World => W.cell? (a.add (i * 4)) = some (.int .i64 (edAt l i).id) ∧
          W.cell? ⟨(a.add (i * 4)).block, (a.add (i * 4)).off + 1, none⟩ = some (.int .i64 (edAt l i).src) ∧
          W.cell? ⟨(a.add (i * 4)).block, (a.add (i * 4)).off + 2, none⟩ = some (.int .i64 (edAt l i).dst) ∧
          W.cell? ⟨(a.add (i * 4)).block, (a.add (i * 4)).off + 3, none⟩ = some (.int .i64 (edAt l i).cost)) (first | exact ⟨z0, z1, z2, z3⟩ | exact HY.out | exact HG2.out _ hg2)
        (first | (refine OwnS.step_append rfl _ _ 78 rfl 94 (.agg #[.int .i64 0, .int .i64 0, .int .i64 0, .int .i64 0]) 4 32 Try.underlying78 (by kernel_rfl) rfl (by omega) (by omega) w.heap.size i _ (((l.take i).map turnE).flatMap edgeCells) rfl (HO.out.drew.alloc _) ⟨wr.heap.size, 0, none⟩ 1 (edgeCells (turnE (edAt l i))) rfl rfl (box_cells _ #[.int .i64 (edAt l i).id, .int .i64 (edAt l i).dst, .int .i64 (edAt l i).src, .int .i64 (edAt l i).cost] 94 _ rfl) (by simp [edgeCells, Value.oneCell']) (by omega) (by have := HB'.out; simp; omega) ?_; intro v' w2 ho2 hg2 _))
      obtain ⟨A2, c2, rfl, hc3, hc4⟩ := ho2.slice
      have ho3 : OwnS 94 4 w2 w.heap.size (.slice A2 (i + 1) c2) (i + 1) (((l.take (i + 1)).map turnE).flatMap edgeCells) := by
        rw [List.take_add_one, edAt_eq hlt]
        simpa using ho2
      have HO3 := Lib.hid ho3
      have HB3 := Lib.hid (HG.out _ hg2)
      clear ho2 ho3 hg2
      go_wp2_with fail
      cases gk with
      | zero => omega
      | succ g1 =>
        go_roundg g1
        case measure => omega
        case rel => exact ⟨i + 1, by omega, by omega, by go_num, HO3.out, HB3.out⟩
    · have hil : i = l.length := by omega
      subst hil
      rw [List.take_length] at HO
      have i1 : ¬ ((l.length : Int) < (l.length : Int)) := by omega
      obtain ⟨A0, c0, rfl, hc1, hc2⟩ := HO.out.slice
      have HRD := Lib.hid (show RdE wr A0 (l.map turnE) from by
        have h := HO.out
        have e1 : (l.map turnE).length = l.length := List.length_map _
        rw [← e1] at h
        exact h.rdE (by omega))
      go_wp2_with fail
      go_ret
      exact ⟨A0, ⟨c0, rfl⟩, HRD.out, HB.out⟩
set_option maxRecDepth 100000 in
set_option maxHeartbeats 4000000 in
theorem rback_any (A F : Option Addr) (c d : Nat) (l : List Edge) (to_ : List Int) (w : World) (hl : RdE w A l) (hf : RdI w F to_) (h200 : l.length ≤ 1000) (hfr : to_.length ≤ 10000) :
    Calls Try.prog 72 #[.slice A l.length c, .slice F to_.length d] w fun e w' => ∃ A' c' ss, e = .returned (.slice A' ss.length c') ∧ RdI w' A' ss ∧ RS5 (l.map turnE) to_ ss ∧ Below w.heap.size w w' := by
  have hm := hl.1
  have HT := Lib.hid (rturned_any A c l w hl h200)
  have HF := Lib.hid hf
  clear hl hf
  go_enter Try.func72, Try.ntmps72
  go_wp2_with fail
  refine HT.out.mono ?_
  rintro e w1 ⟨A1, c1, rfl, hr, hb⟩
  have hlen : (l.map turnE).length = l.length := List.length_map _
  have hR := rreach_any A1 F c1 d (l.map turnE) to_ w1 hr (HF.out.below hb) (by omega) hfr
  rw [hlen] at hR
  have HR := Lib.hid hR
  have HB := Lib.hid hb
  clear hR hb hr HT HF hlen
  go_wp2_with fail
  refine HR.out.mono ?_
  rintro e w2 ⟨A3, c3, ss, rfl, hr, hs, hb2⟩
  have HR3 := Lib.hid hr
  have HS := Lib.hid hs
  have HB2 := Lib.hid (below_in HB.out hb2 HB.out.size)
  clear hr hs hb2 HR HB
  go_wp2_with fail
  go_ret
  exact ⟨A3, c3, ss, rfl, HR3.out, HS.out, HB2.out⟩
end Go.Proofs.Ytoeiongnjogpeaa
