/- Proved here: the reference function put of chapter 05. Condition: the slice reads as numbers. -/
import Derived.Test.YtoeiongnjogpeaaOwnAll
import Derived.Deep.DeepMust
namespace Go.Proofs.Ytoeiongnjogpeaa
open Go.RowKit
def putL : List Int → Int → List Int
  | [], n => [n]
  | x :: xs, n => if n ≤ x then (if n < x then n :: x :: xs else x :: xs) else x :: putL xs n
theorem putL_mem : ∀ (l : List Int) (n x : Int), x ∈ putL l n ↔ x = n ∨ x ∈ l
  | [], n, x => by simp [putL]
  | y :: ys, n, x => by
    unfold putL
    split
    · split
      · simp
      · have : y = n := by omega
        subst this
        simp
    · rw [List.mem_cons, putL_mem ys n x, List.mem_cons]
      constructor
      · rintro (h | h | h)
        · exact .inr (.inl h)
        · exact .inl h
        · exact .inr (.inr h)
      · rintro (h | h | h)
        · exact .inr (.inl h)
        · exact .inl h
        · exact .inr (.inr h)
theorem putL_sorted : ∀ {l : List Int} (n : Int), l.Pairwise (· < ·) → (putL l n).Pairwise (· < ·)
  | [], n, _ => by simp [putL]
  | y :: ys, n, h => by
    unfold putL
    split
    · split
      · refine List.pairwise_cons.2 ⟨fun z hz => ?_, h⟩
        rcases List.mem_cons.1 hz with rfl | hz
        · assumption
        · have := (List.pairwise_cons.1 h).1 z hz; omega
      · exact h
    · refine List.pairwise_cons.2 ⟨fun z hz => ?_, putL_sorted n (List.pairwise_cons.1 h).2⟩
      rcases (putL_mem ys n z).1 hz with rfl | hz
      · omega
      · exact (List.pairwise_cons.1 h).1 z hz
theorem putL_len : ∀ (l : List Int) (n : Int), l.length ≤ (putL l n).length ∧ (putL l n).length ≤ l.length + 1
  | [], n => by simp [putL]
  | y :: ys, n => by
    have := putL_len ys n
    unfold putL
    split
    · split <;> simp
    · simp; omega
theorem putL_same : ∀ {l : List Int} {n : Int}, l.Pairwise (· < ·) → (putL l n).length = l.length → putL l n = l ∧ n ∈ l
  | [], n, _, h => by simp [putL] at h
  | y :: ys, n, hs, h => by
    unfold putL at h ⊢
    split at h
    · split at h
      · simp at h
      · rename_i h1 h2
        rw [if_pos h1, if_neg h2]
        have : y = n := by omega
        exact ⟨rfl, by simp [this]⟩
    · rename_i h1
      rw [if_neg h1]
      obtain ⟨a, b⟩ := putL_same (List.pairwise_cons.1 hs).2 (by simpa using h)
      exact ⟨by rw [a], by simp [b]⟩
theorem drop_num {l : List Int} {k : Nat} (h : k < l.length) : l.drop k = numAt l k :: l.drop (k + 1) := by
  rw [List.drop_eq_getElem_cons h]
  congr 1
  have := numAt_eq h
  rw [List.getElem?_eq_getElem h] at this
  exact Option.some.inj this
set_option maxRecDepth 100000 in
set_option maxHeartbeats 4000000 in
theorem put_any (A : Option Addr) (c : Nat) (l : List Int) (n : Int) (w : World) (hl : RdI w A l) (hlen : l.length ≤ 100000) :
    Calls Try.prog 106 #[.slice A l.length c, .int .i64 n] w fun e w' => ∃ A' c', e = .returned (.slice A' (putL l n).length c') ∧ RdI w' A' (putL l n) ∧ Below w.heap.size w w' := by
  have hm := hl.1
  have HL := Lib.hid hl
  clear hl
  go_enter Try.func106, Try.ntmps106
  go_wp2_with fail
  go_loopw [5, 6, 7] (fun ov dv i wr => ∃ (k : Nat) (done : Bool) (out : List Int), k ≤ l.length ∧ i = .int .i64 k ∧ dv = .bool done ∧ Hid ((if done then out ++ l.drop k else out ++ putL (l.drop k) n) = putL l n) ∧ Hid (OwnI wr w.heap.size ov out) ∧ Hid (Below w.heap.size w wr)) (fun _ _ i _ => l.length - (intOf i).toNat)
  case atStart => exact ⟨0, false, [], Nat.zero_le _, rfl, rfl, by simp [Hid], OwnI.nil _ _, Below.refl _ _⟩
  case round =>
    obtain ⟨k, done, out, hk, rfl, rfl, HI, HO, HB⟩ := hrel
    obtain ⟨A1, c1, rfl⟩ := HO.out.slice
    have hol : out.length ≤ 100001 := by
      have h1 := HI.out
      have h2 := (putL_len l n).2
      rw [← h1] at h2
      cases done <;> simp at h2 <;> omega
    by_cases hlt : k < l.length
    · obtain ⟨a, rfl⟩ := HL.out.addr hlt
      have c0 := HL.out.at_ HB.out hlt
      have i1 : ((k : Int) < (l.length : Int)) := by omega
      have hdr := drop_num hlt
      cases done with
      | true =>
        have HI2 := Lib.hid (show (if true = true then (out ++ [numAt l k]) ++ l.drop (k + 1) else (out ++ [numAt l k]) ++ putL (l.drop (k + 1)) n) = putL l n by
          have := HI.out
          rw [hdr] at this
          simpa using this)
        clear hdr HI
        go_wp2_with (at_builtin; go_must (refine wp_appI rfl _ _ rfl w wr (.slice A1 out.length c1) out (numAt l k) rfl rfl HO.out (by omega) HB.out ?_))
        intro A4 c4 w4 HO4 HB4
        go_wp2_with fail
        go_roundw
        case rel => exact ⟨k + 1, true, out ++ [numAt l k], by omega, by go_num, rfl, HI2.out, HO4.out, HB4.out⟩
        case measure => simp [intOf]; omega
      | false =>
        by_cases hge : n ≤ numAt l k
        · by_cases hgt : n < numAt l k
          · have HI2 := Lib.hid (show (if true = true then (out ++ [n] ++ [numAt l k]) ++ l.drop (k + 1) else (out ++ [n] ++ [numAt l k]) ++ putL (l.drop (k + 1)) n) = putL l n by
              have := HI.out
              rw [hdr] at this
              simp only [putL, if_pos hge, if_pos hgt] at this
              simpa using this)
            clear hdr HI
            have HOL := Lib.hid (show (out ++ [n]).length ≤ 1000000 by simp; omega)
            go_wp2_with (at_builtin; go_must (refine wp_appI rfl _ _ rfl w wr (.slice A1 out.length c1) out n rfl rfl HO.out (by omega) HB.out ?_))
            intro A4 c4 w4 HO4 HB4
            have d0 := HL.out.at_ HB4.out hlt
            clear HO HB c0
            go_wp2_with (at_builtin; go_must (refine wp_appI rfl _ _ rfl w w4 (.slice A4 (out.length + 1) c4) (out ++ [n]) (numAt l k) rfl rfl HO4.out HOL.out HB4.out ?_))
            intro A5 c5 w5 HO5 HB5
            go_wp2_with fail
            go_roundw
            case rel => exact ⟨k + 1, true, out ++ [n] ++ [numAt l k], by omega, by go_num, rfl, HI2.out, (by show OwnI _ _ _ _; simpa using HO5.out), HB5.out⟩
            case measure => simp [intOf]; omega
          · have HI2 := Lib.hid (show (if true = true then (out ++ [numAt l k]) ++ l.drop (k + 1) else (out ++ [numAt l k]) ++ putL (l.drop (k + 1)) n) = putL l n by
              have := HI.out
              rw [hdr] at this
              simp only [putL, if_pos hge, if_neg hgt] at this
              simpa using this)
            clear hdr HI
            go_wp2_with (at_builtin; go_must (refine wp_appI rfl _ _ rfl w wr (.slice A1 out.length c1) out (numAt l k) rfl rfl HO.out (by omega) HB.out ?_))
            intro A4 c4 w4 HO4 HB4
            go_wp2_with fail
            go_roundw
            case rel => exact ⟨k + 1, true, out ++ [numAt l k], by omega, by go_num, rfl, HI2.out, HO4.out, HB4.out⟩
            case measure => simp [intOf]; omega
        · have HI2 := Lib.hid (show (if false = true then (out ++ [numAt l k]) ++ l.drop (k + 1) else (out ++ [numAt l k]) ++ putL (l.drop (k + 1)) n) = putL l n by
            have := HI.out
            rw [hdr] at this
            simp only [putL, if_neg hge] at this
            simpa using this)
          clear hdr HI
          go_wp2_with (at_builtin; go_must (refine wp_appI rfl _ _ rfl w wr (.slice A1 out.length c1) out (numAt l k) rfl rfl HO.out (by omega) HB.out ?_))
          intro A4 c4 w4 HO4 HB4
          go_wp2_with fail
          go_roundw
          case rel => exact ⟨k + 1, false, out ++ [numAt l k], by omega, by go_num, rfl, HI2.out, HO4.out, HB4.out⟩
          case measure => simp [intOf]; omega
    · have hdr : l.drop k = [] := List.drop_of_length_le (by omega)
      have i1 : ¬ ((k : Int) < (l.length : Int)) := by omega
      cases done with
      | true =>
        have HE := Lib.hid (show out = putL l n by
          have := HI.out
          rw [hdr] at this
          simpa using this)
        go_wp2_with fail
        go_ret
        refine ⟨A1, ⟨c1, ?_⟩, ?_, HB.out⟩
        · rw [← HE.out]; rfl
        · rw [← HE.out]; exact HO.out.rdI
      | false =>
        have HE := Lib.hid (show out ++ [n] = putL l n by
          have := HI.out
          rw [hdr] at this
          simpa [putL] using this)
        go_wp2_with (at_builtin; go_must (refine wp_appI rfl _ _ rfl w wr (.slice A1 out.length c1) out n rfl rfl HO.out (by omega) HB.out ?_))
        intro A4 c4 w4 HO4 HB4
        go_wp2_with fail
        go_ret
        refine ⟨A4, c4, ?_, ?_, HB4.out⟩
        · rw [← HE.out, List.length_append]; rfl
        · rw [← HE.out]; exact HO4.out.rdI
end Go.Proofs.Ytoeiongnjogpeaa
