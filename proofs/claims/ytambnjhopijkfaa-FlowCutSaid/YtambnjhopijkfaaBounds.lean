/- Proved here: the closure of FlowBounds tells whether a node lies in the set; and the sum of the capacities that lead out of a set, taken up step by step. -/
import Derived.Test.YtambnjhopijkfaaMaxCut
namespace Go.Proofs.Ytambnjhopijkfaa
open Go.RowKit
def inT (set : List Int) (s t : Int) : Int → Bool := fun n => decide ((n ∈ set ∧ n ≠ t) ∨ n = s)
theorem capOf_append (T : Int → Bool) (e : Edge) : ∀ l : List Edge, capOf T (l ++ [e]) = capOf T l + if T e.src && !T e.dst then e.cost else 0
  | [] => by simp [capOf]
  | a :: l => by
    have ih := capOf_append T e l
    rw [List.cons_append]
    unfold capOf
    rw [ih]
    omega
theorem capOf_take (T : Int → Bool) {l : List Edge} {i : Nat} (hi : i < l.length) : capOf T (l.take (i + 1)) = capOf T (l.take i) + if T (edAt l i).src && !T (edAt l i).dst then (edAt l i).cost else 0 := by
  rw [List.take_add_one, edAt_eq hi, ← capOf_append]
  rfl
theorem capOf_bound (T : Int → Bool) : ∀ l : List Edge, (∀ e ∈ l, 0 ≤ e.cost ∧ e.cost ≤ 1000000) → 0 ≤ capOf T l ∧ capOf T l ≤ 1000000 * (l.length : Int)
  | [], _ => by simp [capOf]
  | e :: l, h => by
    have ih := capOf_bound T l (fun x hx => h x (by simp [hx]))
    have h0 := h e (by simp)
    unfold capOf
    simp only [List.length_cons]
    split <;> omega
set_option maxHeartbeats 1000000 in
theorem in_any (B7 B8 B9 : Addr) (S : Option Addr) (d : Nat) (set : List Int) (s t n : Int) (w : World) (hs : RdI w S set)
    (c7 : w.cell? B7 = some (.slice S set.length d)) (c8 : w.cell? B8 = some (.int .i64 s)) (c9 : w.cell? B9 = some (.int .i64 t)) :
    Calls Try.prog 23 #[.int .i64 n, .pointer (some B7), .pointer (some B9), .pointer (some B8)] w fun e w' => e = .returned (.bool (inT set s t n)) ∧ w = w' := by
  have hm := hs.1
  have HS := Lib.hid hs
  clear hs
  go_enter Try.func23, Try.ntmps23
  go_wp2
  go_loop [6] (fun i => ∃ k : Nat, k ≤ set.length ∧ i = .int .i64 (k : Int) ∧ Hid (∀ j, j < k → numAt set j = n → n = t)) (fun i => set.length - (intOf i).toNat)
  case atStart => exact ⟨0, by omega, rfl, fun j hj => by omega⟩
  case round =>
    obtain ⟨k, hk, rfl, HN⟩ := hrel
    by_cases hlt : k < set.length
    · have i1 : ((k : Int) < (set.length : Int)) := by omega
      obtain ⟨a, rfl⟩ := HS.out.addr hlt
      have z0 := HS.out.at_ (Below.refl _ _) hlt
      by_cases h1 : numAt set k = n
      · have g1 : (numAt set k == n) = true := by simpa using h1
        by_cases h2 : n = t
        · have g2 : (n != t) = false := by simpa using h2
          have HX := Lib.hid h2
          clear h1 h2
          go_wp2
          go_round
          case rel => exact ⟨k + 1, by omega, by go_num, fun j hj _ => HX.out⟩
          case measure => simp [intOf]; omega
        · have g2 : (n != t) = true := by simpa using h2
          have hin : inT set s t n = true := by
            simp only [inT, decide_eq_true_eq]
            exact .inl ⟨by rw [← h1]; exact List.mem_of_getElem? (numAt_eq hlt), h2⟩
          have HX := Lib.hid hin
          clear h1 h2 hin
          go_wp2
          go_ret
          exact ⟨by rw [HX.out]; rfl, rfl⟩
      · have g1 : (numAt set k == n) = false := by simpa using h1
        have HX := Lib.hid h1
        clear h1
        go_wp2
        go_round
        case rel => exact ⟨k + 1, by omega, by go_num, fun j hj hh => by
          rcases Nat.lt_or_ge j k with h | h
          · exact HN.out j h hh
          · obtain rfl : j = k := by omega
            exact absurd hh HX.out⟩
        case measure => simp [intOf]; omega
    · have i1 : ¬ ((k : Int) < (set.length : Int)) := by omega
      have hin : inT set s t n = (n == s) := by
        rw [Bool.eq_iff_iff]
        simp only [inT, decide_eq_true_eq, beq_iff_eq]
        constructor
        · rintro (⟨hm, hne⟩ | h)
          · obtain ⟨j, hj⟩ := List.getElem?_of_mem hm
            have hjl := (List.getElem?_eq_some_iff.1 hj).1
            rw [numAt_eq hjl] at hj
            exact absurd (HN.out j (by omega) (by simpa using hj)) hne
          · exact h
        · exact .inr
      have HX := Lib.hid hin
      clear hin
      go_wp2
      go_ret
      exact ⟨by rw [HX.out]; rfl, rfl⟩
end Go.Proofs.Ytambnjhopijkfaa
