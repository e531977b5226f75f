/- Proved here: the reference functions Without and SameEdges of chapter 05. Condition: the slices read as edges and numbers. -/
import Derived.Test.YtmnkgcnhmkggkaaLGraphReaches
import Derived.Deep.DeepMust
namespace Go.Proofs.Ytmnkgcnhmkggkaa
open Go.RowKit
set_option maxRecDepth 100000 in
set_option maxHeartbeats 4000000 in
theorem rwithout_any (A F : Option Addr) (c d : Nat) (l : List Edge) (ids : List Int) (w : World) (hl : RdE w A l) (hf : RdI w F ids) (h1000 : l.length ≤ 1000) :
    Calls Try.prog 29 #[.slice A l.length c, .slice F ids.length d] w fun e w' => ∃ A' c', e = .returned (.slice A' (withoutL l ids).length c') ∧ RdE w' A' (withoutL l ids) ∧ Below w.heap.size w w' := by
  have hm := hl.1
  have HL := Lib.hid hl
  have HH := Lib.hid (fun x W (h : Below w.heap.size w W) => has_any F d ids x W (hf.below h))
  clear hl hf
  go_enter Try.func29, Try.ntmps29
  go_wp2_with fail
  go_loopw [5, 6] (fun ov i wr => ∃ k : Nat, k ≤ l.length ∧ i = .int .i64 k ∧ Hid (OwnS 42 4 wr w.heap.size ov (withoutL (l.take k) ids).length ((withoutL (l.take k) ids).flatMap edgeCells)) ∧ Hid (Below w.heap.size w wr)) (fun _ i _ => l.length - (intOf i).toNat)
  case atStart => exact ⟨0, Nat.zero_le _, rfl, OwnS.nil _ _ _ _, Below.refl _ _⟩
  case round =>
    obtain ⟨k, hk, rfl, HO, HB⟩ := hrel
    obtain ⟨A1, c1, rfl, _, _⟩ := HO.out.slice
    by_cases hlt : k < l.length
    · have i1 : ((k : Int) < (l.length : Int)) := by omega
      obtain ⟨a, rfl⟩ := HL.out.addr hlt
      obtain ⟨x0, x1, x2, x3⟩ := HL.out.at_ HB.out hlt
      have hst := withoutL_take l ids hlt
      have hle : (withoutL (l.take k) ids).length ≤ 1000 := by
        have := List.length_filter_le (fun e : Edge => !decide (e.id ∈ ids)) (l.take k)
        rw [List.length_take] at this
        unfold withoutL; omega
      have HC := Lib.hid (HH.out (edAt l k).id wr HB.out)
      have HZ := Lib.hid HB.out.size
      by_cases hx : (edAt l k).id ∈ ids
      · rw [decide_eq_true hx] at HC
        have HT := Lib.hid (show withoutL (l.take (k + 1)) ids = withoutL (l.take k) ids by rw [hst, if_pos hx, List.append_nil])
        clear hx hst
        go_wp2_with fail
        refine HC.out.mono ?_
        rintro e w1 ⟨rfl, rfl⟩
        go_wp2_with fail
        go_roundw
        case rel => exact ⟨k + 1, by omega, by go_num, by rw [HT.out]; exact HO.out, HB.out⟩
        case measure => simp [intOf]; omega
      · rw [decide_eq_false hx] at HC
        have HT := Lib.hid (show withoutL (l.take (k + 1)) ids = withoutL (l.take k) ids ++ [edAt l k] by rw [hst, if_neg hx])
        clear hx hst
        go_wp2_with fail
        refine HC.out.mono ?_
        rintro e w1 ⟨rfl, rfl⟩
        go_wp2_with (at_builtin; go_must (refine OwnS.wp_append rfl _ _ 22 rfl 42 (.agg #[.int .i64 0, .int .i64 0, .int .i64 0, .int .i64 0]) 4 32 Try.underlying22 (by kernel_rfl) rfl (by omega) (by omega) w.heap.size (withoutL (l.take k) ids).length _ ((withoutL (l.take k) ids).flatMap edgeCells) rfl (HO.out.alloc _) ⟨_, 0, none⟩ 1 (edgeCells (edAt l k)) rfl rfl (box_cells _ #[.int .i64 (edAt l k).id, .int .i64 (edAt l k).src, .int .i64 (edAt l k).dst, .int .i64 (edAt l k).cost] 42 _ (by simp)) (by simp [edgeCells, Value.oneCell']) (by omega) (by have := HZ.out; simp; omega) ?_))
        intro v' w3 ho3 hg3 _
        have hb3 := (HB.out.alloc HB.out.size (.cells #[.int .i64 (edAt l k).id, .int .i64 (edAt l k).src, .int .i64 (edAt l k).dst, .int .i64 (edAt l k).cost] 42)).grown hg3 (by have := HZ.out; simp; omega) (fun j hj => (HO.out.block hj).1)
        have ho4 : OwnS 42 4 w3 w.heap.size v' (withoutL (l.take (k + 1)) ids).length ((withoutL (l.take (k + 1)) ids).flatMap edgeCells) := by
          rw [HT.out, List.flatMap_append, List.length_append]
          simpa using ho3
        have HO4 := Lib.hid ho4
        have HB3 := Lib.hid hb3
        clear ho3 hg3 ho4 hb3
        go_wp2_with fail
        go_roundw
        case rel => exact ⟨k + 1, by omega, by go_num, HO4.out, HB3.out⟩
        case measure => simp [intOf]; omega
    · have hkl : k = l.length := by omega
      subst hkl
      rw [List.take_length] at HO
      have i1 : ¬ ((l.length : Int) < (l.length : Int)) := by omega
      have e1 : l.take l.length = l := List.take_length
      have hle : (withoutL l ids).length ≤ 1000 := by
        have := List.length_filter_le (fun e : Edge => !decide (e.id ∈ ids)) l
        unfold withoutL; omega
      have HR := Lib.hid (HO.out.rdE hle)
      rw [e1]
      clear e1
      go_wp2_with fail
      go_ret
      exact ⟨A1, ⟨c1, rfl⟩, HR.out, HB.out⟩
set_option maxRecDepth 100000 in
set_option maxHeartbeats 4000000 in
theorem sameEdges_any (A B : Option Addr) (c d : Nat) (l : List Edge) (w : World) (hl : RdE w A l) (hm' : RdE w B l) :
    Calls Try.prog 28 #[.slice A l.length c, .slice B l.length d] w fun e w' => e = .returned (.bool true) ∧ Below w.heap.size w w' := by
  have hm := hl.1
  have HL := Lib.hid hl
  have HM := Lib.hid hm'
  clear hl hm'
  go_enter Try.func28, Try.ntmps28
  go_wp2_with fail
  go_loopw [5] (fun i wr => ∃ k : Nat, k ≤ l.length ∧ i = .int .i64 k ∧ Hid (Below w.heap.size w wr)) (fun i _ => l.length - (intOf i).toNat)
  case atStart => exact ⟨0, Nat.zero_le _, rfl, Below.refl _ _⟩
  case round =>
    obtain ⟨k, hk, rfl, HB⟩ := hrel
    by_cases hlt : k < l.length
    · obtain ⟨a, rfl⟩ := HL.out.addr hlt
      obtain ⟨b, rfl⟩ := HM.out.addr hlt
      obtain ⟨x0, x1, x2, x3⟩ := HL.out.at_ HB.out hlt
      obtain ⟨y0, y1, y2, y3⟩ := HM.out.at_ HB.out hlt
      have i1 : ((k : Int) < (l.length : Int)) := by omega
      go_wp2_with fail
      go_big_quiet (fail)
      go_wp2_with fail
      go_roundw
      case rel => exact ⟨k + 1, by omega, by go_num, below_drewN HB.out _⟩
      case measure => simp [intOf]; omega
    · have i1 : ¬ ((k : Int) < (l.length : Int)) := by omega
      go_wp2_with fail
      go_ret
      exact ⟨rfl, HB.out⟩
end Go.Proofs.Ytmnkgcnhmkggkaa
