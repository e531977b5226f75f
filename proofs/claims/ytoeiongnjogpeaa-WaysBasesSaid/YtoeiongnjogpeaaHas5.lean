/- Proved here: the reference functions Has and Same of chapter 05 answer what they say. Condition: the slices read as numbers. -/
import Derived.Test.YtoeiongnjogpeaaProg
import Derived.Test.YtoeiongnjogpeaaBase
namespace Go.Proofs.Ytoeiongnjogpeaa
open Go.RowKit

theorem mem_take_succ {l : List Int} {k : Nat} (h : k < l.length) (n : Int) : n ∈ l.take (k + 1) ↔ n ∈ l.take k ∨ numAt l k = n := by
  rw [take_num h]; simp [eq_comm]
/-- ref05.Has -/
theorem has_any (A : Option Addr) (c : Nat) (l : List Int) (n : Int) (w : World) (hl : RdI w A l) :
    Calls Try.prog 35 #[.slice A l.length c, .int .i64 n] w fun e w' => e = .returned (.bool (decide (n ∈ l))) ∧ w = w' := by
  have hm := hl.1
  have HL := Lib.hid hl
  clear hl
  go_enter Try.func35, Try.ntmps35
  go_wp2
  go_loop [5] (fun i => ∃ k : Nat, k ≤ l.length ∧ i = .int .i64 k ∧ Hid (¬ n ∈ l.take k)) (fun i => l.length - (intOf i).toNat)
  case atStart => exact ⟨0, Nat.zero_le _, rfl, by simp [Hid]⟩
  case round =>
    obtain ⟨k, hk, rfl, HI⟩ := hrel
    by_cases hlt : k < l.length
    · obtain ⟨a, rfl⟩ := HL.out.addr hlt
      have c0 := HL.out.at_ (Below.refl _ _) hlt
      have hs := mem_take_succ hlt n
      have HS := Lib.hid hs
      clear hs
      by_cases he : numAt l k = n
      · have he' : (numAt l k == n) = true := by simp [he]
        have hmem : n ∈ l := List.mem_of_mem_take (HS.out.2 (.inr he))
        have HM := Lib.hid hmem
        clear he hmem
        go_wp2
        go_ret
        exact ⟨by simp [HM.out], rfl⟩
      · have he' : (numAt l k == n) = false := by simp [he]
        have HE := Lib.hid he
        clear he
        go_wp2
        go_round
        case rel => exact ⟨k + 1, by omega, by go_num, fun h => (HS.out.1 h).elim HI.out HE.out⟩
        case measure => simp [intOf]; omega
    · have hno : ¬ n ∈ l := by
        have := HI.out; rwa [List.take_of_length_le (by omega)] at this
      have HN := Lib.hid hno
      clear hno
      go_wp2
      go_ret
      exact ⟨by simp [HN.out], rfl⟩

/-- ref05.Same -/
theorem same_any (A B : Option Addr) (c d : Nat) (l m : List Int) (w : World) (hl : RdI w A l) (hm' : RdI w B m) :
    Calls Try.prog 23 #[.slice A l.length c, .slice B m.length d] w fun e w' => e = .returned (.bool (decide (l = m))) ∧ Below w.heap.size w w' := by
  have hm := hl.1
  have hm2 := hm'.1
  have HL := Lib.hid hl
  have HM := Lib.hid hm'
  clear hl hm'
  by_cases hlen : l.length = m.length
  · have hlen' : (l.length == m.length) = true := by simp [hlen]
    have HN := Lib.hid hlen
    clear hlen
    go_enter Try.func23, Try.ntmps23
    go_wp2
    go_loopw [5] (fun i wr => ∃ k : Nat, k ≤ l.length ∧ i = .int .i64 k ∧ Hid (l.take k = m.take k) ∧ Hid (Below w.heap.size w wr)) (fun i _ => l.length - (intOf i).toNat)
    case atStart => exact ⟨0, Nat.zero_le _, rfl, rfl, Below.refl _ _⟩
    case round =>
      obtain ⟨k, hk, rfl, HI, HB⟩ := hrel
      by_cases hlt : k < l.length
      · have hlt2 : k < m.length := by have := HN.out; omega
        obtain ⟨a, rfl⟩ := HL.out.addr hlt
        obtain ⟨b, rfl⟩ := HM.out.addr hlt2
        have c0 := HL.out.at_ HB.out hlt
        have d0 := HM.out.at_ HB.out hlt2
        have i1 : ((k : Int) < (l.length : Int)) := by omega
        have i2 : ((k : Int) < (m.length : Int)) := by omega
        by_cases he : numAt l k = numAt m k
        · have he' : (numAt l k != numAt m k) = false := by simp [he]
          have HE := Lib.hid he
          clear he
          go_wp2
          go_quiet (fail)
          go_wp2
          go_roundw
          case rel => exact ⟨k + 1, by omega, by go_num, by rw [Hid, take_num hlt, take_num hlt2, HI.out, HE.out], below_drewN HB.out _⟩
          case measure => simp [intOf]; omega
        · have he' : (numAt l k != numAt m k) = true := by simp [he]
          have hne : ¬ l = m := fun e => he (by rw [e])
          have HE := Lib.hid hne
          clear he hne
          go_wp2
          go_quiet (fail)
          go_wp2
          go_ret
          exact ⟨by simp [HE.out], below_drewN HB.out _⟩
      · have heq : l = m := by
          have := HI.out
          rwa [List.take_of_length_le (by omega), List.take_of_length_le (by have := HN.out; omega)] at this
        have HE := Lib.hid heq
        clear heq
        go_wp2
        go_ret
        exact ⟨by simp [HE.out], HB.out⟩
  · have hlen' : (l.length == m.length) = false := by simp [hlen]
    have hne : ¬ l = m := fun e => hlen (by rw [e])
    have HE := Lib.hid hne
    clear hlen hne
    go_enter Try.func23, Try.ntmps23
    go_wp2
    go_ret
    exact ⟨by simp [HE.out], Below.refl _ _⟩
end Go.Proofs.Ytoeiongnjogpeaa
