/- Proved here: slices.Contains at []int, and the function Without of the package graph. Condition: the slices read as numbers, as edges. -/
import Derived.Test.YtmnkgcnhmkggkaaEdges
import Derived.Test.YtmnkgcnhmkggkaaChecked
namespace Go.Proofs.Ytmnkgcnhmkggkaa
open Go.RowKit
theorem in_take_succ {l : List Int} {k : Nat} (h : k < l.length) (n : Int) : n ∈ l.take (k + 1) ↔ n ∈ l.take k ∨ numAt l k = n := by
  rw [List.take_add_one, numAt_eq h, List.mem_append]
  simp [eq_comm]
theorem index_any (F : Option Addr) (d : Nat) (f : List Int) (x : Int) (w : World) (hf : RdI w F f) :
    Calls Try.prog 53 #[.slice F f.length d, .int .i64 x] w fun e w' => (∃ i : Int, e = .returned (.int .i64 i) ∧ decide (0 ≤ i) = decide (x ∈ f)) ∧ w = w' := by
  have hm := hf.1
  have HF := Lib.hid hf
  clear hf
  go_enter Try.func53, Try.ntmps53
  go_wp2_with fail
  go_loop [8] (fun i => ∃ k : Nat, k ≤ f.length ∧ i = .int .i64 k ∧ Hid (¬ x ∈ f.take k)) (fun i => f.length - (intOf i).toNat)
  case atStart => exact ⟨0, Nat.zero_le _, rfl, by simp [Hid]⟩
  case round =>
    obtain ⟨k, hk, rfl, HI⟩ := hrel
    by_cases hlt : k < f.length
    · obtain ⟨a, rfl⟩ := HF.out.addr hlt
      have c0 := HF.out.at_ (Below.refl _ _) hlt
      have HS := Lib.hid (in_take_succ hlt x)
      have i1 : ((k : Int) < (f.length : Int)) := by omega
      by_cases he : numAt f k = x
      · have he' : (x == numAt f k) = true := by simp [he]
        have hmem : x ∈ f := List.mem_of_mem_take (HS.out.2 (.inr he))
        have HM := Lib.hid hmem
        clear he hmem
        go_wp2_with fail
        go_ret
        exact ⟨⟨(k : Int), rfl, by simp [HM.out]⟩, rfl⟩
      · have he' : (x == numAt f k) = false := by simp; exact fun e => he e.symm
        have HE := Lib.hid he
        clear he
        go_wp2_with fail
        go_round
        case rel => exact ⟨k + 1, by omega, by go_num, fun h => (HS.out.1 h).elim HI.out HE.out⟩
        case measure => simp [intOf]; omega
    · have hno : ¬ x ∈ f := by
        have := HI.out; rwa [List.take_of_length_le (by omega)] at this
      have HN := Lib.hid hno
      have i1 : ¬ ((k : Int) < (f.length : Int)) := by omega
      clear hno
      go_wp2_with fail
      go_ret
      exact ⟨⟨-1, rfl, by simp [HN.out]⟩, rfl⟩
theorem contains_any (F : Option Addr) (d : Nat) (f : List Int) (x : Int) (w : World) (hf : RdI w F f) :
    Calls Try.prog 46 #[.slice F f.length d, .int .i64 x] w fun e w' => e = .returned (.bool (decide (x ∈ f))) ∧ w = w' := by
  have HC := Lib.hid (index_any F d f x w hf)
  clear hf
  go_enter Try.func46, Try.ntmps46
  go_wp2_with fail
  refine HC.out.mono ?_
  rintro e w1 ⟨⟨i, rfl, hi⟩, rfl⟩
  have HI := Lib.hid hi
  clear hi
  go_wp2_with fail
  go_ret
  exact ⟨by rw [← HI.out]; rfl, rfl⟩
def withoutL (l : List Edge) (ids : List Int) : List Edge := l.filter (fun e => !decide (e.id ∈ ids))
theorem withoutL_take (l : List Edge) (ids : List Int) {k : Nat} (h : k < l.length) : withoutL (l.take (k + 1)) ids = withoutL (l.take k) ids ++ if (edAt l k).id ∈ ids then [] else [edAt l k] := by
  unfold withoutL
  rw [List.take_add_one, edAt_eq h, List.filter_append]
  congr 1
  by_cases hx : (edAt l k).id ∈ ids <;> simp [hx]
set_option maxHeartbeats 2000000 in
theorem without_any (A F : Option Addr) (c d : Nat) (l : List Edge) (ids : List Int) (w : World) (hl : RdE w A l) (hf : RdI w F ids) (h1000 : l.length ≤ 1000) :
    Calls Try.prog 27 #[.slice A l.length c, .slice F ids.length d] w fun e w' => ∃ v, e = .returned v ∧ OwnS 42 4 w' w.heap.size v (withoutL l ids).length ((withoutL l ids).flatMap edgeCells) ∧ Below w.heap.size w w' := by
  have hm := hl.1
  have HL := Lib.hid hl
  have HC := Lib.hid (fun x W (h : Below w.heap.size w W) => contains_any F d ids x W (hf.below h))
  clear hl hf
  go_enter Try.func27, Try.ntmps27
  go_wp2_with fail
  go_loopw [5, 10] (fun ov i wr => ∃ k : Nat, k ≤ l.length ∧ i = .int .i64 k ∧ Hid (OwnS 42 4 wr w.heap.size ov (withoutL (l.take k) ids).length ((withoutL (l.take k) ids).flatMap edgeCells)) ∧ Hid (Below w.heap.size w wr)) (fun _ i _ => l.length - (intOf i).toNat)
  case atStart => exact ⟨0, Nat.zero_le _, rfl, OwnS.nil _ _ _ _, Below.refl _ _⟩
  case round =>
    obtain ⟨k, hk, rfl, HO, HB⟩ := hrel
    obtain ⟨A1, c1, rfl, _, _⟩ := HO.out.slice
    by_cases hlt : k < l.length
    · have i1 : ((k : Int) < (l.length : Int)) := by omega
      obtain ⟨a, rfl⟩ := HL.out.addr hlt
      obtain ⟨x0, x1, x2, x3⟩ := HL.out.at_ HB.out hlt
      have hst := withoutL_take l ids hlt
      have hle : (withoutL (l.take k) ids).length ≤ 1000 := by
        have := List.length_filter_le (fun e : Edge => !decide (e.id ∈ ids)) (l.take k)
        rw [List.length_take] at this
        unfold withoutL; omega
      obtain ⟨W0, hW0⟩ : ∃ W0, W0 = wr.alloc (.cells #[.int .i64 (edAt l k).id, .int .i64 (edAt l k).src, .int .i64 (edAt l k).dst, .int .i64 (edAt l k).cost] 42) := ⟨_, rfl⟩
      have y0 : W0.cell? ⟨wr.heap.size, 0, none⟩ = some (.int .i64 (edAt l k).id) := by rw [hW0]; exact box_cell _ _ _ _ _ rfl
      have y1 : W0.cell? ⟨wr.heap.size, 1, none⟩ = some (.int .i64 (edAt l k).src) := by rw [hW0]; exact box_cell _ _ _ _ _ rfl
      have y2 : W0.cell? ⟨wr.heap.size, 2, none⟩ = some (.int .i64 (edAt l k).dst) := by rw [hW0]; exact box_cell _ _ _ _ _ rfl
      have y3 : W0.cell? ⟨wr.heap.size, 3, none⟩ = some (.int .i64 (edAt l k).cost) := by rw [hW0]; exact box_cell _ _ _ _ _ rfl
      have HB0 : Hid (Below w.heap.size w W0) := by rw [hW0]; exact HB.out.alloc HB.out.size _
      have HO0 : Hid (OwnS 42 4 W0 w.heap.size (.slice A1 (withoutL (l.take k) ids).length c1) (withoutL (l.take k) ids).length ((withoutL (l.take k) ids).flatMap edgeCells)) := by rw [hW0]; exact HO.out.alloc _
      have HST := Lib.hid hst
      clear hst
      go_wp2_with fail
      rw [← hW0]
      obtain ⟨H, hH⟩ : ∃ H, H = wr.heap.size := ⟨_, rfl⟩
      rw [← hH] at y0 y1 y2 y3 ⊢
      clear hW0 HB HO x0 x1 x2 x3 hH
      refine (HC.out _ _ HB0.out).mono ?_
      rintro e w1 ⟨rfl, rfl⟩
      by_cases hx : (edAt l k).id ∈ ids
      · rw [decide_eq_true hx]
        have HT := Lib.hid (show withoutL (l.take (k + 1)) ids = withoutL (l.take k) ids by rw [HST.out, if_pos hx, List.append_nil])
        clear hx
        go_wp2_with fail
        go_roundw
        case rel => exact ⟨k + 1, by omega, by go_num, by rw [HT.out]; exact HO0.out, HB0.out⟩
        case measure => simp [intOf]; omega
      · rw [decide_eq_false hx]
        have HT := Lib.hid (show withoutL (l.take (k + 1)) ids = withoutL (l.take k) ids ++ [edAt l k] by rw [HST.out, if_neg hx])
        have HZ := Lib.hid HB0.out.size
        clear hx
        go_wp2_with (at_builtin; refine OwnS.wp_append rfl _ _ 22 rfl 42 (.agg #[.int .i64 0, .int .i64 0, .int .i64 0, .int .i64 0]) 4 32 Try.underlying22 (by kernel_rfl) rfl (by omega) (by omega) w.heap.size (withoutL (l.take k) ids).length _ ((withoutL (l.take k) ids).flatMap edgeCells) rfl (HO0.out.alloc _) ⟨_, 0, none⟩ 1 (edgeCells (edAt l k)) rfl rfl (box_cells _ #[.int .i64 (edAt l k).id, .int .i64 (edAt l k).src, .int .i64 (edAt l k).dst, .int .i64 (edAt l k).cost] 42 _ (by simp)) (by simp [edgeCells, Value.oneCell']) (by omega) (by have := HZ.out; simp; omega) ?_)
        intro v' w3 ho3 hg3 _
        have hb3 := (HB0.out.alloc HB0.out.size (.cells #[.int .i64 (edAt l k).id, .int .i64 (edAt l k).src, .int .i64 (edAt l k).dst, .int .i64 (edAt l k).cost] 42)).grown hg3 (by have := HZ.out; simp; omega) (fun j hj => (HO0.out.block hj).1)
        have ho4 : OwnS 42 4 w3 w.heap.size v' (withoutL (l.take (k + 1)) ids).length ((withoutL (l.take (k + 1)) ids).flatMap edgeCells) := by
          rw [HT.out, List.flatMap_append, List.length_append]
          simpa using ho3
        have HO4 := Lib.hid ho4
        have HB3 := Lib.hid hb3
        clear ho3 hg3 ho4 hb3
        go_wp2_with fail
        go_roundw
        case rel => exact ⟨k + 1, by omega, by go_num, HO4.out, HB3.out⟩
        case measure => simp [intOf]; omega
    · have hkl : k = l.length := by omega
      subst hkl
      rw [List.take_length] at HO
      have i1 : ¬ ((l.length : Int) < (l.length : Int)) := by omega
      go_wp2_with fail
      go_ret
      exact ⟨_, rfl, HO.out, HB.out⟩
end Go.Proofs.Ytmnkgcnhmkggkaa
