/- Proved here: slices.Contains at []int. Condition: the slice reads as numbers. -/
import Derived.Test.YtoeiongnjogpeaaBase
import Derived.Test.YtoeiongnjogpeaaChecked
namespace Go.Proofs.Ytoeiongnjogpeaa
open Go.RowKit
theorem in_take_succ {l : List Int} {k : Nat} (h : k < l.length) (n : Int) : n ∈ l.take (k + 1) ↔ n ∈ l.take k ∨ numAt l k = n := by
  rw [List.take_add_one, numAt_eq h, List.mem_append]
  simp [eq_comm]
theorem index_any (F : Option Addr) (d : Nat) (f : List Int) (x : Int) (w : World) (hf : RdI w F f) :
    Calls Try.prog 59 #[.slice F f.length d, .int .i64 x] w fun e w' => (∃ i : Int, e = .returned (.int .i64 i) ∧ decide (0 ≤ i) = decide (x ∈ f)) ∧ w = w' := by
  have hm := hf.1
  have HF := Lib.hid hf
  clear hf
  go_enter Try.func59, Try.ntmps59
  go_wp2_with fail
  go_loop [8] (fun i => ∃ k : Nat, k ≤ f.length ∧ i = .int .i64 k ∧ Hid (¬ x ∈ f.take k)) (fun i => f.length - (intOf i).toNat)
  case atStart => exact ⟨0, Nat.zero_le _, rfl, by simp [Hid]⟩
  case round =>
    obtain ⟨k, hk, rfl, HI⟩ := hrel
    by_cases hlt : k < f.length
    · obtain ⟨a, rfl⟩ := HF.out.addr hlt
      have c0 := HF.out.at_ (Below.refl _ _) hlt
      have HS := Lib.hid (in_take_succ hlt x)
      have i1 : ((k : Int) < (f.length : Int)) := by omega
      by_cases he : numAt f k = x
      · have he' : (x == numAt f k) = true := by simp [he]
        have hmem : x ∈ f := List.mem_of_mem_take (HS.out.2 (.inr he))
        have HM := Lib.hid hmem
        clear he hmem
        go_wp2_with fail
        go_ret
        exact ⟨⟨(k : Int), rfl, by simp [HM.out]⟩, rfl⟩
      · have he' : (x == numAt f k) = false := by simp; exact fun e => he e.symm
        have HE := Lib.hid he
        clear he
        go_wp2_with fail
        go_round
        case rel => exact ⟨k + 1, by omega, by go_num, fun h => (HS.out.1 h).elim HI.out HE.out⟩
        case measure => simp [intOf]; omega
    · have hno : ¬ x ∈ f := by
        have := HI.out; rwa [List.take_of_length_le (by omega)] at this
      have HN := Lib.hid hno
      have i1 : ¬ ((k : Int) < (f.length : Int)) := by omega
      clear hno
      go_wp2_with fail
      go_ret
      exact ⟨⟨-1, rfl, by simp [HN.out]⟩, rfl⟩
theorem contains_any (F : Option Addr) (d : Nat) (f : List Int) (x : Int) (w : World) (hf : RdI w F f) :
    Calls Try.prog 61 #[.slice F f.length d, .int .i64 x] w fun e w' => e = .returned (.bool (decide (x ∈ f))) ∧ w = w' := by
  have HC := Lib.hid (index_any F d f x w hf)
  clear hf
  go_enter Try.func61, Try.ntmps61
  go_wp2_with fail
  refine HC.out.mono ?_
  rintro e w1 ⟨⟨i, rfl, hi⟩, rfl⟩
  have HI := Lib.hid hi
  clear hi
  go_wp2_with fail
  go_ret
  exact ⟨by rw [← HI.out]; rfl, rfl⟩
end Go.Proofs.Ytoeiongnjogpeaa
