/- Proved here: cmp.Compare, cmp.Or at int, slices.Compare at []int, and better of the reference of chapter 11. Condition: the slices read as numbers. -/
import Derived.Test.YtoeiongnjogpeaaWStr
namespace Go.Proofs.Ytoeiongnjogpeaa
open Go.RowKit
def cmpI (a b : Int) : Int := if a < b then -1 else if b < a then 1 else 0
def lexC : List Int → List Int → Int
  | [], [] => 0
  | [], _ :: _ => -1
  | _ :: _, [] => 1
  | x :: a, y :: b => if cmpI x y = 0 then lexC a b else cmpI x y
def orL : List Int → Int
  | [] => 0
  | x :: l => if x = 0 then orL l else x
theorem isnan_any (a : Int) (w : World) : Calls Try.prog 114 #[.int .i64 a] w fun e w' => e = .returned (.bool false) ∧ w = w' := by
  have t : (a != a) = false := by simp
  go_enter Try.func114, Try.ntmps114
  go_wp2_with fail
  go_ret
  exact ⟨rfl, rfl⟩
theorem compare_any (a b : Int) (w : World) : Calls Try.prog 78 #[.int .i64 a, .int .i64 b] w fun e w' => e = .returned (.int .i64 (cmpI a b)) ∧ w = w' := by
  have HN := Lib.hid (fun x => isnan_any x w)
  rcases Int.lt_trichotomy a b with h | h | h
  · have HC := Lib.hid (show cmpI a b = -1 by unfold cmpI; rw [if_pos h])
    go_enter Try.func78, Try.ntmps78
    go_wp2_with ((go_at_call 114; refine (HN.out _).mono ?_; rintro e w1 ⟨rfl, rfl⟩))
    go_ret
    exact ⟨by rw [HC.out]; rfl, rfl⟩
  · subst h
    have HC := Lib.hid (show cmpI a a = 0 by unfold cmpI; rw [if_neg (by omega), if_neg (by omega)])
    have h1 : ¬ a < a := by omega
    go_enter Try.func78, Try.ntmps78
    go_wp2_with ((go_at_call 114; refine (HN.out _).mono ?_; rintro e w1 ⟨rfl, rfl⟩))
    go_ret
    exact ⟨by rw [HC.out]; rfl, rfl⟩
  · have HC := Lib.hid (show cmpI a b = 1 by unfold cmpI; rw [if_neg (by omega), if_pos h])
    have h1 : ¬ a < b := by omega
    go_enter Try.func78, Try.ntmps78
    go_wp2_with ((go_at_call 114; refine (HN.out _).mono ?_; rintro e w1 ⟨rfl, rfl⟩))
    go_ret
    exact ⟨by rw [HC.out]; rfl, rfl⟩
theorem orL_drop (l : List Int) (k : Nat) (h : k < l.length) : orL (l.drop k) = if numAt l k = 0 then orL (l.drop (k + 1)) else numAt l k := by
  rw [drop_num h, orL]
theorem or_any (F : Option Addr) (d : Nat) (l : List Int) (w : World) (hl : RdI w F l) : Calls Try.prog 77 #[.slice F l.length d] w fun e w' => e = .returned (.int .i64 (orL l)) ∧ w = w' := by
  have hm := hl.1
  have HL := Lib.hid hl
  clear hl
  go_enter Try.func77, Try.ntmps77
  go_wp2_with fail
  go_loop [8] (fun i => ∃ k : Nat, k ≤ l.length ∧ i = .int .i64 k ∧ Hid (orL (l.drop k) = orL l)) (fun i => l.length - (intOf i).toNat)
  case atStart => exact ⟨0, Nat.zero_le _, rfl, rfl⟩
  case round =>
    obtain ⟨k, hk, rfl, HI⟩ := hrel
    by_cases hlt : k < l.length
    · have i1 : ((k : Int) < (l.length : Int)) := by omega
      obtain ⟨a, rfl⟩ := HL.out.addr hlt
      have c0 := HL.out.at_ (Below.refl _ _) hlt
      have HD := Lib.hid (orL_drop l k hlt)
      by_cases hz : numAt l k = 0
      · have t1 : (numAt l k != 0) = false := by simp [hz]
        have HN := Lib.hid (show orL (l.drop (k + 1)) = orL l by rw [← HI.out, HD.out, if_pos hz])
        clear hz
        go_wp2_with fail
        go_round
        case rel => exact ⟨k + 1, by omega, by go_num, HN.out⟩
        case measure => simp [intOf]; omega
      · have t1 : (numAt l k != 0) = true := by simp [hz]
        have HN := Lib.hid (show orL l = numAt l k by rw [← HI.out, HD.out, if_neg hz])
        clear hz
        go_wp2_with fail
        go_ret
        exact ⟨by rw [HN.out]; rfl, rfl⟩
    · have HN := Lib.hid (show orL l = 0 by rw [← HI.out, List.drop_of_length_le (by omega)]; rfl)
      have i1 : ¬ ((k : Int) < (l.length : Int)) := by omega
      go_wp2_with fail
      go_ret
      exact ⟨by rw [HN.out]; rfl, rfl⟩
set_option maxRecDepth 100000 in
set_option maxHeartbeats 4000000 in
theorem lexcmp_any (F G : Option Addr) (d c : Nat) (l m : List Int) (w : World) (hl : RdI w F l) (hm : RdI w G m) : Calls Try.prog 79 #[.slice F l.length d, .slice G m.length c] w fun e w' => e = .returned (.int .i64 (lexC l m)) ∧ w = w' := by
  have hm1 := hl.1
  have hm2 := hm.1
  have HL := Lib.hid hl
  have HM := Lib.hid hm
  have HC := Lib.hid (fun a b => compare_any a b w)
  clear hl hm
  go_enter Try.func79, Try.ntmps79
  go_wp2_with fail
  go_loop [11] (fun i => ∃ k : Nat, k ≤ l.length ∧ k ≤ m.length ∧ i = .int .i64 k ∧ Hid (lexC (l.drop k) (m.drop k) = lexC l m)) (fun i => l.length - (intOf i).toNat)
  case atStart => exact ⟨0, Nat.zero_le _, Nat.zero_le _, rfl, rfl⟩
  case round =>
    obtain ⟨k, hk, hkm, rfl, HI⟩ := hrel
    by_cases hlt : k < l.length
    · have i1 : ((k : Int) < (l.length : Int)) := by omega
      obtain ⟨a, rfl⟩ := HL.out.addr hlt
      have c0 := HL.out.at_ (Below.refl _ _) hlt
      by_cases hlm : k < m.length
      · have i2 : ((k : Int) < (m.length : Int)) := by omega
        have i3 : ¬ ((m.length : Int) ≤ (k : Int)) := by omega
        have i4 : ¬ (m.length ≤ k) := by omega
        obtain ⟨b, rfl⟩ := HM.out.addr hlm
        have c1 := HM.out.at_ (Below.refl _ _) hlm
        have HD := Lib.hid (show lexC l m = if cmpI (numAt l k) (numAt m k) = 0 then lexC (l.drop (k + 1)) (m.drop (k + 1)) else cmpI (numAt l k) (numAt m k) by rw [← HI.out, drop_num hlt, drop_num hlm, lexC])
        have HC1 := Lib.hid (HC.out (numAt l k) (numAt m k))
        go_wp2_with fail
        refine HC1.out.mono ?_
        rintro e w1 ⟨rfl, rfl⟩
        obtain ⟨cc, hcc⟩ : ∃ cc, cc = cmpI (numAt l k) (numAt m k) := ⟨_, rfl⟩
        rw [← hcc] at HD ⊢
        clear HC1 hcc
        by_cases hz : cc = 0
        · have t1 : (cc != 0) = false := by simp [hz]
          have HN := Lib.hid (show lexC (l.drop (k + 1)) (m.drop (k + 1)) = lexC l m by rw [HD.out, if_pos hz])
          clear hz
          go_wp2_with fail
          go_round
          case rel => exact ⟨k + 1, by omega, by omega, by go_num, HN.out⟩
          case measure => simp [intOf]; omega
        · have t1 : (cc != 0) = true := by simp [hz]
          have HN := Lib.hid (show lexC l m = cc by rw [HD.out, if_neg hz])
          clear hz
          go_wp2_with fail
          go_ret
          exact ⟨by rw [HN.out]; rfl, rfl⟩
      · have i3 : ((m.length : Int) ≤ (k : Int)) := by omega
        have i4 : (m.length ≤ k) := by omega
        have HN := Lib.hid (show lexC l m = 1 by rw [← HI.out, drop_num hlt, show List.drop k m = [] from List.drop_of_length_le (by omega)]; rfl)
        go_wp2_with fail
        go_ret
        exact ⟨by rw [HN.out]; rfl, rfl⟩
    · have i1 : ¬ ((k : Int) < (l.length : Int)) := by omega
      by_cases hlm : l.length < m.length
      · have i2 : ((l.length : Int) < (m.length : Int)) := by omega
        have HN := Lib.hid (show lexC l m = -1 by rw [← HI.out, List.drop_of_length_le (by omega), drop_num (by omega)]; rfl)
        go_wp2_with fail
        go_ret
        exact ⟨by rw [HN.out]; rfl, rfl⟩
      · have i2 : ¬ ((l.length : Int) < (m.length : Int)) := by omega
        have HN := Lib.hid (show lexC l m = 0 by rw [← HI.out, List.drop_of_length_le (by omega), List.drop_of_length_le (by omega)]; rfl)
        go_wp2_with fail
        go_ret
        exact ⟨by rw [HN.out]; rfl, rfl⟩
/-- Is a way better than another one? -/
def betterB (a : List Int) (n : Int) (b : List Int) (k : Int) : Bool := decide (orL [cmpI n k, cmpI (a.length : Int) (b.length : Int), lexC a b] < 0)
theorem betterB_lt {a b : List Int} {n k : Int} (h : n < k) : betterB a n b k = true := by
  unfold betterB
  have : cmpI n k = -1 := by unfold cmpI; rw [if_pos h]
  rw [this]; simp [orL]
theorem betterB_gt {a b : List Int} {n k : Int} (h : k < n) : betterB a n b k = false := by
  unfold betterB
  have : cmpI n k = 1 := by unfold cmpI; rw [if_neg (by omega), if_pos h]
  rw [this]; simp [orL]
theorem betterB_len {a b : List Int} {n : Int} (h : a.length ≠ b.length) : betterB a n b n = decide (a.length < b.length) := by
  unfold betterB
  have h1 : cmpI n n = 0 := by unfold cmpI; rw [if_neg (by omega), if_neg (by omega)]
  rw [h1]
  rcases Nat.lt_or_ge a.length b.length with h2 | h2
  · have : cmpI (a.length : Int) (b.length : Int) = -1 := by unfold cmpI; rw [if_pos (by omega)]
    rw [this]; simp [orL, h2]
  · have : cmpI (a.length : Int) (b.length : Int) = 1 := by unfold cmpI; rw [if_neg (by omega), if_pos (by omega)]
    rw [this]
    have : ¬ a.length < b.length := by omega
    simp [orL]; omega
theorem betterB_lex {a b : List Int} {n : Int} (h : a.length = b.length) : betterB a n b n = decide (lexC a b < 0) := by
  unfold betterB
  have h1 : cmpI n n = 0 := by unfold cmpI; rw [if_neg (by omega), if_neg (by omega)]
  have h2 : cmpI (a.length : Int) (b.length : Int) = 0 := by unfold cmpI; rw [if_neg (by omega), if_neg (by omega)]
  rw [h1, h2]
  by_cases hz : lexC a b = 0 <;> simp [orL, hz]
set_option maxRecDepth 100000 in
set_option maxHeartbeats 4000000 in
theorem better_any (F G : Option Addr) (d c : Nat) (a b : List Int) (n k : Int) (w : World) (ha : RdI w F a) (hb : RdI w G b) :
    Calls Try.prog 81 #[.slice F a.length d, .int .i64 n, .slice G b.length c, .int .i64 k] w fun e w' => e = .returned (.bool (betterB a n b k)) ∧ Below w.heap.size w w' := by
  have hm1 := ha.1
  have hm2 := hb.1
  have HA := Lib.hid ha
  have HB := Lib.hid hb
  clear ha hb
  rcases Int.lt_trichotomy n k with h | h | h
  · have HR := Lib.hid (betterB_lt (a := a) (b := b) h)
    have t1 : (n != k) = true := by simp; omega
    go_enter Try.func81, Try.ntmps81
    go_wp2_with fail
    go_ret
    exact ⟨by rw [HR.out]; rfl, Below.refl _ _⟩
  · subst h
    have t1 : (n != n) = false := by simp
    have t2 : (n == n) = true := by simp
    have t3 : ¬ n < n := by omega
    by_cases hl : a.length = b.length
    · have t4 : ((a.length : Int) != (b.length : Int)) = false := by simp [hl]
      have t5 : (a.length != b.length) = false := by simp [hl]
      have HR := Lib.hid (betterB_lex (n := n) hl)
      have HL := Lib.hid hl
      have hle : a.length ≤ b.length := by omega
      clear hl
      go_enter Try.func81, Try.ntmps81
      go_wp2_with fail
      go_loopw [9] (fun i wr => ∃ q : Nat, q ≤ a.length ∧ i = .int .i64 q ∧ Hid (lexC (a.drop q) (b.drop q) = lexC a b) ∧ Hid (Below w.heap.size w wr)) (fun i _ => a.length - (intOf i).toNat)
      case atStart => exact ⟨0, Nat.zero_le _, rfl, rfl, Below.refl _ _⟩
      case round =>
        obtain ⟨q, hq, rfl, HI, HBL⟩ := hrel
        by_cases hlt : q < a.length
        · have i1 : ((q : Int) < (a.length : Int)) := by omega
          have hlb : q < b.length := by omega
          have i2 : ((q : Int) < (b.length : Int)) := by omega
          obtain ⟨x, rfl⟩ := HA.out.addr hlt
          obtain ⟨y, rfl⟩ := HB.out.addr hlb
          have c0 := HA.out.at_ HBL.out hlt
          have c1 := HB.out.at_ HBL.out hlb
          have HD := Lib.hid (show lexC a b = if cmpI (numAt a q) (numAt b q) = 0 then lexC (a.drop (q + 1)) (b.drop (q + 1)) else cmpI (numAt a q) (numAt b q) by rw [← HI.out, drop_num hlt, drop_num hlb, lexC])
          by_cases hne : numAt a q = numAt b q
          · have t6 : (numAt a q != numAt b q) = false := by simp [hne]
            have HN := Lib.hid (show lexC (a.drop (q + 1)) (b.drop (q + 1)) = lexC a b by
              rw [HD.out, if_pos]
              unfold cmpI; rw [if_neg (by omega), if_neg (by omega)])
            clear hne
            go_wp2_with fail
            go_big_quiet (fail)
            go_wp2_with fail
            go_roundw
            case rel => exact ⟨q + 1, by omega, by go_num, HN.out, below_drewN HBL.out _⟩
            case measure => simp [intOf]; omega
          · have t6 : (numAt a q != numAt b q) = true := by simp [hne]
            have HN := Lib.hid (show betterB a n b n = decide (numAt a q < numAt b q) by
              rw [HR.out, HD.out]
              rcases Int.lt_or_gt_of_ne hne with h1 | h1
              · have : cmpI (numAt a q) (numAt b q) = -1 := by unfold cmpI; rw [if_pos h1]
                simp [this, h1]
              · have : cmpI (numAt a q) (numAt b q) = 1 := by unfold cmpI; rw [if_neg (by omega), if_pos h1]
                simp [this]; omega)
            obtain ⟨r, hr⟩ : ∃ r, r = decide (numAt a q < numAt b q) := ⟨_, rfl⟩
            have HRR := Lib.hid hr
            clear hne hr
            go_wp2_with fail
            go_big_quiet (fail)
            have c0 := HA.out.at_ (below_drewN HBL.out nq) hlt
            have c1 := HB.out.at_ (below_drewN HBL.out nq) hlb
            go_wp2_with fail
            go_big_quiet (fail)
            go_wp2_with fail
            go_ret
            exact ⟨by rw [HN.out]; rfl, below_drewN (below_drewN HBL.out _) _⟩
        · have HN := Lib.hid (show betterB a n b n = false by
            rw [HR.out, ← HI.out, List.drop_of_length_le (by omega), List.drop_of_length_le (by have := HL.out; omega)]; rfl)
          have i1 : ¬ ((q : Int) < (a.length : Int)) := by omega
          go_wp2_with fail
          go_ret
          exact ⟨by rw [HN.out]; rfl, HBL.out⟩
    · have HR := Lib.hid (betterB_len (n := n) hl)
      have t4 : ((a.length : Int) != (b.length : Int)) = true := by simp; omega
      have t5 : (a.length != b.length) = true := by simp; omega
      clear hl
      go_enter Try.func81, Try.ntmps81
      go_wp2_with fail
      go_ret
      exact ⟨by rw [HR.out]; simp, Below.refl _ _⟩
  · have HR := Lib.hid (betterB_gt (a := a) (b := b) h)
    have t1 : (n != k) = true := by simp; omega
    have t2 : (n == k) = false := by simp; omega
    have t3 : ¬ n < k := by omega
    go_enter Try.func81, Try.ntmps81
    go_wp2_with fail
    go_ret
    exact ⟨by rw [HR.out]; rfl, Below.refl _ _⟩
end Go.Proofs.Ytoeiongnjogpeaa
