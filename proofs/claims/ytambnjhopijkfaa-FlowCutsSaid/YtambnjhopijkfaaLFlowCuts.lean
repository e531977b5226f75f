/- Proved here: the law FlowCuts returns true for all arguments that read as edges, and changes nothing that was there before. -/
import Derived.Test.YtambnjhopijkfaaAlive
import Derived.Test.YtambnjhopijkfaaRCut
namespace Go.Proofs.Ytambnjhopijkfaa
open Go.RowKit
set_option maxRecDepth 100000 in
set_option maxHeartbeats 4000000 in
theorem flowCuts_walk (A : Option Addr) (c : Nat) (l : List Edge) (s t : Int) (w : World) (hl : RdE w A l) :
    Calls Try.prog 6 #[.slice A l.length c, .int .i64 s, .int .i64 t] w fun e w' => e = .returned (.bool true) ∧ Below w.heap.size w w' := by
  have hm := hl.1
  have HA := Lib.hid (alive_any w)
  have HF := Lib.hid (fun W (h : Below w.heap.size w W) => few_any A c l W (hl.below h))
  have HM := Lib.hid (fun (hr : Right l) W (h : Below w.heap.size w W) => cut_any A c l s t W (hl.below h) hr)
  have HN := Lib.hid (fun (hr : Right l) W (h : Below w.heap.size w W) => rcut_any A c l s t W (hl.below h) hr)
  clear hl
  go_enter Try.func6, Try.ntmps6
  go_wp2_with fail
  refine HA.out.mono ?_
  rintro e w1 ⟨rfl, hb1⟩
  have HB1 := Lib.hid hb1
  clear hb1
  go_wp2_with fail
  refine (HF.out _ HB1.out).mono ?_
  rintro e w2 ⟨rfl, hb2⟩
  have HB2 := Lib.hid (HB1.out.trans (hb2.mono HB1.out.size))
  clear hb2
  by_cases hfew : fewB l = true
  · have hr : Right l := by
      simp only [fewB, Bool.and_eq_true] at hfew
      exact rightB_iff.1 hfew.2
    rw [hfew]
    have HRR := Lib.hid hr
    clear hr
    go_wp2_with fail
    refine (HM.out HRR.out _ HB2.out).mono ?_
    rintro e w3 ⟨v3, rfl, ho3, hb3⟩
    obtain ⟨A3, c3, rfl, _, _⟩ := ho3.slice
    have HO3 := Lib.hid ho3
    have HB3 := Lib.hid (HB2.out.trans (hb3.mono HB2.out.size))
    clear hb3 ho3
    go_wp2_with fail
    refine (HN.out HRR.out _ HB3.out).mono ?_
    rintro e w4 ⟨v4, rfl, ho4, hb4⟩
    obtain ⟨A4, c4, rfl, _, _⟩ := ho4.slice
    have HS := Lib.hid (same_any A3 A4 c3 c4 (cutL l s t) (cutL l s t) w4 (HO3.out.below hb4).rdI ho4.rdI)
    have HB4 := Lib.hid (HB3.out.trans (hb4.mono HB3.out.size))
    clear hb4 ho4
    go_wp2_with fail
    refine HS.out.mono ?_
    rintro e w5 ⟨rfl, hb5⟩
    have HB5 := Lib.hid (HB4.out.trans (hb5.mono HB4.out.size))
    clear hb5
    rw [show decide True = true from rfl]
    go_wp2_with fail
    go_ret
    exact ⟨rfl, HB5.out⟩
  · simp only [Bool.not_eq_true] at hfew
    rw [hfew]
    go_wp2_with fail
    go_ret
    exact ⟨rfl, HB2.out⟩
end Go.Proofs.Ytambnjhopijkfaa
