/- Proved here: the law GraphReaches returns true for all arguments that read as edges and numbers, and changes nothing that was there before. -/
import Derived.Test.YtmnkgcnhmkggkaaTurned5
namespace Go.Proofs.Ytmnkgcnhmkggkaa
open Go.RowKit
theorem lright_any (A : Option Addr) (c : Nat) (l : List Edge) (w : World) (hl : RdE w A l) :
    Calls Try.prog 14 #[.slice A l.length c] w fun e w' => e = .returned (.bool (errL l == 0)) ∧ Below w.heap.size w w' := by
  have hm := hl.1
  have HR := Lib.hid (rright_any A c l w hl)
  clear hl
  go_enter Try.func14, Try.ntmps14
  go_wp2_with fail
  refine HR.out.mono ?_
  rintro e w1 ⟨rfl, hb⟩
  have HB := Lib.hid hb
  clear hb
  go_wp2_with fail
  go_ret
  exact ⟨rfl, HB.out⟩
theorem sameT_any (A B : Option Addr) (c d : Nat) (l : List Int) (w : World) (hl : RdI w A l) (hm : RdI w B l) :
    Calls Try.prog 15 #[.slice A l.length c, .slice B l.length d] w fun e w' => e = .returned (.bool true) ∧ Below w.heap.size w w' :=
  (same_any A B c d l l w hl hm).mono fun e w' ⟨a, b⟩ => ⟨by rw [a]; simp, b⟩
theorem Right.srcs {l : List Edge} (h : Right l) : ∀ e ∈ l, -9223372036854775808 ≤ e.src ∧ e.src ≤ 9223372036854775807 := fun e he => by
  have := h.ok e he; unfold EdgeOk at this; omega
theorem Right.dsts {l : List Edge} (h : Right l) : ∀ e ∈ l, -9223372036854775808 ≤ e.dst ∧ e.dst ≤ 9223372036854775807 := fun e he => by
  have := h.ok e he; unfold EdgeOk at this; omega
set_option maxRecDepth 100000 in
set_option maxHeartbeats 4000000 in
theorem graphReaches_walk (A : Option Addr) (c : Nat) (l : List Edge) (F : Option Addr) (d : Nat) (n : List Int) (w : World) (hl : RdE w A l) (hn : RdI w F n ∧ ∀ x ∈ n, -9223372036854775808 ≤ x ∧ x ≤ 9223372036854775807) :
    Calls Try.prog 4 #[.slice A l.length c, .slice F n.length d] w fun e w' => e = .returned (.bool true) ∧ Below w.heap.size w w' := by
  have hm := hl.1
  have hm2 := hn.1.1
  have HA := Lib.hid (alive_any w)
  have HL := Lib.hid hl
  have HN := Lib.hid hn
  clear hl hn
  go_enter Try.func4, Try.ntmps4
  go_wp2_with fail
  refine HA.out.mono ?_
  rintro e w1 ⟨rfl, hb⟩
  have HB := Lib.hid hb
  clear hb HA
  have HC := Lib.hid (lright_any A c l w1 (HL.out.below HB.out))
  go_wp2_with fail
  refine HC.out.mono ?_
  rintro e w2 ⟨rfl, hb⟩
  replace HB := Lib.hid (below_in HB.out hb HB.out.size)
  clear hb HC
  by_cases hr0 : errL l = 0
  · have hr := errL_zero hr0
    have hr1 : (errL l == 0) = true := by simp [hr0]
    rw [hr1]
    have HR := Lib.hid hr
    have h200 := hr.len
    clear hr hr0 hr1
    by_cases h40 : n.length ≤ 40
    · have i1 : decide (40 < n.length) = false := by simp; omega
      have i2 : decide ((40 : Int) < (n.length : Int)) = false := by simp; omega
      have HC := Lib.hid (greach_any A F c d l n w2 (HL.out.below HB.out) (HN.out.1.below HB.out) (by omega) (by omega) HN.out.2 HR.out.dsts)
      go_wp2_with fail
      refine HC.out.mono ?_
      rintro e w3 ⟨v3, s3, rfl, ho, hs3, hb⟩
      obtain ⟨A3, c3, rfl, _, _⟩ := ho.slice
      replace HB := Lib.hid (below_in HB.out hb HB.out.size)
      have HX := Lib.hid ho.rdI
      have HS3 := Lib.hid hs3
      clear hb ho hs3 HC
      have HC := Lib.hid (rreach_any A F c d l n w3 (HL.out.below HB.out) (HN.out.1.below HB.out) (by omega) (by omega))
      go_wp2_with fail
      refine HC.out.mono ?_
      rintro e w4 ⟨A4, c4, s4, rfl, hr4, hs4, hb⟩
      obtain rfl := hs4.uniq HS3.out
      replace HB := Lib.hid (below_in HB.out hb HB.out.size)
      replace HX := Lib.hid (HX.out.below hb)
      have HY := Lib.hid hr4
      clear hb hr4 hs4 HC
      have HC := Lib.hid (sameT_any A3 A4 c3 c4 s4 w4 HX.out HY.out)
      go_wp2_with fail
      refine HC.out.mono ?_
      rintro e w5 ⟨rfl, hb⟩
      replace HB := Lib.hid (below_in HB.out hb HB.out.size)
      clear hb HC HX HY
      have HC := Lib.hid (gback_any A F c d l n w5 (HL.out.below HB.out) (HN.out.1.below HB.out) (by omega) (by omega) HN.out.2 HR.out.srcs)
      go_wp2_with fail
      refine HC.out.mono ?_
      rintro e w6 ⟨v6, s6, rfl, ho, hs6, hb⟩
      obtain ⟨A6, c6, rfl, _, _⟩ := ho.slice
      replace HB := Lib.hid (below_in HB.out hb HB.out.size)
      have HX := Lib.hid ho.rdI
      have HS6 := Lib.hid hs6
      clear hb ho hs6 HC
      have HC := Lib.hid (rback_any A F c d l n w6 (HL.out.below HB.out) (HN.out.1.below HB.out) (by omega) (by omega))
      go_wp2_with fail
      refine HC.out.mono ?_
      rintro e w7 ⟨A7, c7, s7, rfl, hr7, hs7, hb⟩
      obtain rfl := hs7.uniq HS6.out
      replace HB := Lib.hid (below_in HB.out hb HB.out.size)
      replace HX := Lib.hid (HX.out.below hb)
      have HY := Lib.hid hr7
      clear hb hr7 hs7 HC
      have HC := Lib.hid (sameT_any A6 A7 c6 c7 s7 w7 HX.out HY.out)
      go_wp2_with fail
      refine HC.out.mono ?_
      rintro e w8 ⟨rfl, hb⟩
      replace HB := Lib.hid (below_in HB.out hb HB.out.size)
      clear hb HC HX HY
      go_wp2_with fail
      go_ret
      exact ⟨rfl, HB.out⟩
    · have i1 : 40 < n.length := by omega
      have i2 : (40 : Int) < (n.length : Int) := by omega
      go_wp2_with fail
      go_ret
      exact ⟨rfl, HB.out⟩
  · have hr1 : (errL l == 0) = false := by simp [hr0]
    rw [hr1]
    go_wp2_with fail
    go_ret
    exact ⟨rfl, HB.out⟩
end Go.Proofs.Ytmnkgcnhmkggkaa
