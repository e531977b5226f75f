/- Proved here: the law FlowValid returns true for all arguments that read as edges and numbers, and changes nothing that was there before. -/
import Derived.Test.YtambnjhopijkfaaAlive
namespace Go.Proofs.Ytambnjhopijkfaa
open Go.RowKit
set_option maxRecDepth 100000 in
set_option maxHeartbeats 4000000 in
theorem flowValid_walk (A F : Option Addr) (c d : Nat) (l : List Edge) (f : List Int) (s t : Int) (w : World) (hl : RdE w A l) (hf : RdI w F f) :
    Calls Try.prog 3 #[.slice A l.length c, .slice F f.length d, .int .i64 s, .int .i64 t] w fun e w' => e = .returned (.bool true) ∧ Below w.heap.size w w' := by
  have hm := hf.1
  have HA := Lib.hid (alive_any w)
  have HF := Lib.hid (fun W (h : Below w.heap.size w W) => few_any A c l W (hl.below h))
  have HR := Lib.hid (fun (hr : Right l) W (h : Below w.heap.size w W) => rvalid_any A F c d l f s t W (hl.below h) (hf.below h) hr)
  have HV := Lib.hid (fun (hr : Right l) W (h : Below w.heap.size w W) => valid_any A F c d l f s t W (hl.below h) (hf.below h) hr)
  have HU := Lib.hid (fun (h0 : f.length = l.length) W (h : Below w.heap.size w W) => value_any A F c d l f s W (hl.below h) (hf.below h) h0)
  have HW := Lib.hid (fun (h0 : f.length = l.length) W (h : Below w.heap.size w W) => rvalue_any A F c d l f s W (hl.below h) (hf.below h) h0)
  clear hl hf
  go_enter Try.func3, Try.ntmps3
  go_wp2_with fail
  refine HA.out.mono ?_
  rintro e w1 ⟨rfl, hb1⟩
  have HB1 := Lib.hid hb1
  clear hb1
  go_wp2_with fail
  refine (HF.out _ HB1.out).mono ?_
  rintro e w2 ⟨rfl, hb2⟩
  have HB2 := Lib.hid (HB1.out.trans (hb2.mono HB1.out.size))
  clear hb2
  by_cases hfew : fewB l = true
  · have hr : Right l := by
      simp only [fewB, Bool.and_eq_true] at hfew
      exact rightB_iff.1 hfew.2
    rw [hfew]
    have HRR := Lib.hid hr
    clear hr
    by_cases h100 : f.length ≤ 100
    · have g1 : decide ((100 : Int) < (f.length : Int)) = false := by simp; omega
      go_wp2_with fail
      refine (HR.out HRR.out _ HB2.out).mono ?_
      rintro e w3 ⟨rfl, hb3⟩
      have HB3 := Lib.hid (HB2.out.trans (hb3.mono HB2.out.size))
      clear hb3
      go_wp2_with fail
      refine (HV.out HRR.out _ HB3.out).mono ?_
      rintro e w4 ⟨rfl, hb4⟩
      have HB4 := Lib.hid (HB3.out.trans (hb4.mono HB3.out.size))
      clear hb4
      have gs : (validB l f s t == validB l f s t) = true := by simp
      cases hv : validB l f s t
      · rw [hv] at gs
        go_wp2_with fail
        go_ret
        exact ⟨rfl, HB4.out⟩
      · rw [hv] at gs
        have h0 : f.length = l.length := (validB_iff.1 hv).len
        have H0 := Lib.hid h0
        clear h0
        go_wp2_with fail
        refine (HU.out H0.out _ HB4.out).mono ?_
        rintro e w5 ⟨rfl, hb5⟩
        have HB5 := Lib.hid (HB4.out.trans (hb5.mono HB4.out.size))
        clear hb5
        go_wp2_with fail
        refine (HW.out H0.out _ HB5.out).mono ?_
        rintro e w6 ⟨rfl, rfl⟩
        have ge : (wrap64 (net l f s) == wrap64 (net l f s)) = true := by simp
        go_wp2_with fail
        go_ret
        exact ⟨rfl, HB5.out⟩
    · have g1 : decide ((100 : Int) < (f.length : Int)) = true := by simp; omega
      go_wp2_with fail
      go_ret
      exact ⟨rfl, HB2.out⟩
  · simp only [Bool.not_eq_true] at hfew
    rw [hfew]
    go_wp2_with fail
    go_ret
    exact ⟨rfl, HB2.out⟩
end Go.Proofs.Ytambnjhopijkfaa
