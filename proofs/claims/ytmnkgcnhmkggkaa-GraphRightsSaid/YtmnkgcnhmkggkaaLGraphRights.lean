/- Proved here: the law GraphRights returns true for all arguments that read as edges, and changes nothing that was there before. -/
import Derived.Test.YtmnkgcnhmkggkaaAliveG
namespace Go.Proofs.Ytmnkgcnhmkggkaa
open Go.RowKit
set_option maxRecDepth 100000 in
set_option maxHeartbeats 4000000 in
theorem graphRights_walk (A : Option Addr) (c : Nat) (l : List Edge) (w : World) (hl : RdE w A l) :
    Calls Try.prog 3 #[.slice A l.length c] w fun e w' => e = .returned (.bool true) ∧ Below w.heap.size w w' := by
  have hm := hl.1
  have HA := Lib.hid (alive_any w)
  have HG := Lib.hid (fun W (h : Below w.heap.size w W) => gright_any A c l W (hl.below h))
  have HR := Lib.hid (fun W (h : Below w.heap.size w W) => rright_any A c l W (hl.below h))
  clear hl
  go_enter Try.func3, Try.ntmps3
  go_wp2_with fail
  refine HA.out.mono ?_
  rintro e w1 ⟨rfl, hb1⟩
  have HB1 := Lib.hid hb1
  clear hb1 HA
  by_cases h230 : l.length ≤ 230
  · have i1 : decide (230 < l.length) = false := by simp; omega
    have i2 : decide ((230 : Int) < (l.length : Int)) = false := by simp; omega
    go_wp2_with fail
    refine (HG.out _ HB1.out).mono ?_
    rintro e w2 ⟨rfl, hb2⟩
    have HB2 := Lib.hid (below_in HB1.out hb2 HB1.out.size)
    clear hb2
    go_wp2_with fail
    refine (HR.out _ HB2.out).mono ?_
    rintro e w3 ⟨rfl, hb3⟩
    have HB3 := Lib.hid (below_in HB2.out hb3 HB2.out.size)
    clear hb3
    have gs : (errL l == errL l) = true := by simp
    go_wp2_with fail
    go_ret
    exact ⟨rfl, HB3.out⟩
  · have i1 : 230 < l.length := by omega
    have i2 : (230 : Int) < (l.length : Int) := by omega
    go_wp2_with fail
    go_ret
    exact ⟨rfl, HB1.out⟩
end Go.Proofs.Ytmnkgcnhmkggkaa
