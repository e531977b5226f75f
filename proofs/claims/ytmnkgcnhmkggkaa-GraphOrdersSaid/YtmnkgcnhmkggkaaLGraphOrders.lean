/- Proved here: the law GraphOrders returns true for all arguments that read as edges, and changes nothing that was there before. -/
import Derived.Test.YtmnkgcnhmkggkaaROrder
import Derived.Test.YtmnkgcnhmkggkaaLGraphReaches
namespace Go.Proofs.Ytmnkgcnhmkggkaa
open Go.RowKit
set_option maxRecDepth 100000 in
set_option maxHeartbeats 4000000 in
theorem graphOrders_walk (A : Option Addr) (c : Nat) (l : List Edge) (w : World) (hl : RdE w A l) :
    Calls Try.prog 5 #[.slice A l.length c] w fun e w' => e = .returned (.bool true) ∧ Below w.heap.size w w' := by
  have hm := hl.1
  have HA := Lib.hid (alive_any w)
  have HL := Lib.hid hl
  clear hl
  go_enter Try.func5, Try.ntmps5
  go_wp2_with fail
  refine HA.out.mono ?_
  rintro e w1 ⟨rfl, hb⟩
  have HB := Lib.hid hb
  clear hb HA
  have HC := Lib.hid (lright_any A c l w1 (HL.out.below HB.out))
  go_wp2_with fail
  refine HC.out.mono ?_
  rintro e w2 ⟨rfl, hb⟩
  replace HB := Lib.hid (below_in HB.out hb HB.out.size)
  clear hb HC
  by_cases hr0 : errL l = 0
  · have hr := errL_zero hr0
    have hr1 : (errL l == 0) = true := by simp [hr0]
    rw [hr1]
    have HR := Lib.hid hr
    have h200 := hr.len
    clear hr hr0 hr1
    have HC := Lib.hid (order_any A c l w2 (HL.out.below HB.out) HR.out)
    obtain ⟨ol, hol⟩ : ∃ ol, ol = (orderL l).1 := ⟨_, rfl⟩
    obtain ⟨oe, hoe⟩ : ∃ oe, oe = (orderL l).2 := ⟨_, rfl⟩
    rw [← hol, ← hoe] at HC
    go_wp2_with fail
    refine HC.out.mono ?_
    rintro e w3 ⟨v3, rfl, ho, hb⟩
    obtain ⟨A3, c3, rfl, _, _⟩ := ho.slice
    replace HB := Lib.hid (below_in HB.out hb HB.out.size)
    have HX := Lib.hid ho.rdI
    clear hb ho HC
    have HC := Lib.hid (rorder_any A c l w3 (HL.out.below HB.out) (by omega))
    rw [← hol, ← hoe] at HC
    clear hol hoe
    go_wp2_with fail
    refine HC.out.mono ?_
    rintro e w4 ⟨A4, c4, rfl, hr4, hb⟩
    replace HB := Lib.hid (below_in HB.out hb HB.out.size)
    replace HX := Lib.hid (HX.out.below hb)
    have HY := Lib.hid hr4
    clear hb hr4 HC
    have HC := Lib.hid (sameT_any A3 A4 c3 c4 ol w4 HX.out HY.out)
    go_wp2_with fail
    refine HC.out.mono ?_
    rintro e w5 ⟨rfl, hb⟩
    replace HB := Lib.hid (below_in HB.out hb HB.out.size)
    clear hb HC HX HY
    have t1 : (oe == oe) = true := by simp
    go_wp2_with fail
    go_ret
    exact ⟨rfl, HB.out⟩
  · have hr1 : (errL l == 0) = false := by simp [hr0]
    rw [hr1]
    go_wp2_with fail
    go_ret
    exact ⟨rfl, HB.out⟩
end Go.Proofs.Ytmnkgcnhmkggkaa
