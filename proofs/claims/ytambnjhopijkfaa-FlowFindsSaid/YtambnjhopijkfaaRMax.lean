/- Proved here: the reference function Max returns the worth of a greatest flow. Condition: accepted edges. -/
import Derived.Test.YtambnjhopijkfaaRFind
import Derived.Test.YtambnjhopijkfaaMaxCut
namespace Go.Proofs.Ytambnjhopijkfaa
open Go.RowKit
/-- ref06.Max -/
theorem rmax_any (A : Option Addr) (c : Nat) (l : List Edge) (s t : Int) (w : World) (hl : RdE w A l) (hr : Right l) :
    Calls Try.prog 18 #[.slice A l.length c, .int .i64 s, .int .i64 t] w fun e w' => e = .returned (.int .i64 (maxV l s t)) ∧ Below w.heap.size w w' := by
  have hm := hl.1
  by_cases hst : s = t
  · have he : (s == t) = true := by simpa using hst
    have HZ := Lib.hid (show maxV l s t = 0 by rw [hst]; exact maxV_same l t)
    clear hst hl
    go_enter Try.func18, Try.ntmps18
    go_wp2
    go_ret
    exact ⟨by rw [HZ.out]; rfl, Below.refl _ _⟩
  · have he : (s == t) = false := by simpa using hst
    have HC := Lib.hid (rfind_ne A c l s t w hl hr hst)
    have HL := Lib.hid hl
    have HR := Lib.hid hr
    clear hst hl hr
    go_enter Try.func18, Try.ntmps18
    go_wp2_with fail
    refine HC.out.mono ?_
    rintro e w1 ⟨v, f, S, rfl, ho, hmx, hb⟩
    obtain ⟨A1, c1, rfl, _, _⟩ := ho.slice
    have hv := rvalue_any A A1 c c1 l f s w1 (HL.out.below hb) ho.rdI hmx.flow.len
    rw [hmx.flow.len] at hv
    have HV := Lib.hid hv
    have HM := Lib.hid (show wrap64 (net l f s) = maxV l s t by rw [maxV_of hmx, hmx.flow.wrap HR.out])
    have HB := Lib.hid hb
    clear hv ho hmx hb
    go_wp2_with fail
    refine HV.out.mono ?_
    rintro e w2 ⟨rfl, rfl⟩
    go_wp2
    go_ret
    exact ⟨by rw [← HM.out]; rfl, HB.out⟩
end Go.Proofs.Ytambnjhopijkfaa
