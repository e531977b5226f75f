/- Proved here: the law GraphPaths returns true for all arguments that read as edges and numbers, and changes nothing that was there before. -/
import Derived.Test.YtmnkgcnhmkggkaaRShort
import Derived.Test.YtmnkgcnhmkggkaaShort
import Derived.Test.YtmnkgcnhmkggkaaLGraphReaches
namespace Go.Proofs.Ytmnkgcnhmkggkaa
open Go.RowKit
set_option maxRecDepth 100000 in
set_option maxHeartbeats 4000000 in
theorem graphPaths_walk (A : Option Addr) (c : Nat) (l : List Edge) (f t : Int) (w : World) (hl : RdE w A l) :
    Calls Try.prog 6 #[.slice A l.length c, .int .i64 f, .int .i64 t] w fun e w' => e = .returned (.bool true) ∧ Below w.heap.size w w' := by
  have hm := hl.1
  have HA := Lib.hid (alive_any w)
  have HL := Lib.hid hl
  clear hl
  go_enter Try.func6, Try.ntmps6
  go_wp2_with fail
  refine HA.out.mono ?_
  rintro e w1 ⟨rfl, hb⟩
  have HB := Lib.hid hb
  clear hb HA
  have HC := Lib.hid (lright_any A c l w1 (HL.out.below HB.out))
  go_wp2_with fail
  refine HC.out.mono ?_
  rintro e w2 ⟨rfl, hb⟩
  replace HB := Lib.hid (below_in HB.out hb HB.out.size)
  clear hb HC
  by_cases hr0 : errL l = 0
  · have hr := errL_zero hr0
    have hr1 : (errL l == 0) = true := by simp [hr0]
    rw [hr1]
    have HR := Lib.hid hr
    clear hr hr0 hr1
    have HC := Lib.hid (short_any A c l f t w2 (HL.out.below HB.out) HR.out)
    go_wp2_with fail
    refine HC.out.mono ?_
    rintro e w3 ⟨v3, ids, n, ok, rfl, hs, hidl, ho, hb⟩
    obtain ⟨A3, c3, rfl, _, _⟩ := ho.slice
    replace HB := Lib.hid (below_in HB.out hb HB.out.size)
    have HX := Lib.hid ho.rdI
    have HS := Lib.hid hs
    clear hb ho HC hs
    have HC := Lib.hid (rshort_any A c l f t w3 (HL.out.below HB.out) HR.out)
    go_wp2_with fail
    refine HC.out.mono ?_
    rintro e w4 ⟨A4, c4, ids', n', ok', rfl, hs', hr4, hb⟩
    obtain ⟨rfl, rfl, rfl⟩ := HS.out.uniq hs'
    replace HB := Lib.hid (below_in HB.out hb HB.out.size)
    replace HX := Lib.hid (HX.out.below hb)
    have HY := Lib.hid hr4
    clear hb hr4 HC HS hs'
    have HC := Lib.hid (sameT_any A3 A4 c3 c4 ids w4 HX.out HY.out)
    have t1 : (n == n) = true := by simp
    have t2 : (ok == ok) = true := by simp
    go_wp2_with fail
    refine HC.out.mono ?_
    rintro e w5 ⟨rfl, hb⟩
    replace HB := Lib.hid (below_in HB.out hb HB.out.size)
    clear hb HC HX HY
    go_wp2_with fail
    go_ret
    exact ⟨rfl, HB.out⟩
  · have hr1 : (errL l == 0) = false := by simp [hr0]
    rw [hr1]
    go_wp2_with fail
    go_ret
    exact ⟨rfl, HB.out⟩
end Go.Proofs.Ytmnkgcnhmkggkaa
