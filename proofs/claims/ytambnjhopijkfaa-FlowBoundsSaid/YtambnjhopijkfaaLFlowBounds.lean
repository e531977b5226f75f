/- Proved here: the law FlowBounds returns true for all arguments that read as edges and numbers, and changes nothing that was there before. -/
import Derived.Test.YtambnjhopijkfaaAlive
import Derived.Test.YtambnjhopijkfaaMore
import Derived.Test.YtambnjhopijkfaaBounds
namespace Go.Proofs.Ytambnjhopijkfaa
open Go.RowKit
set_option maxRecDepth 100000 in
set_option maxHeartbeats 4000000 in
theorem flowBounds_walk (A F S : Option Addr) (c d d2 : Nat) (l : List Edge) (f set : List Int) (s t : Int) (w : World) (hl : RdE w A l) (hf : RdI w F f) (hs : RdI w S set) :
    Calls Try.prog 7 #[.slice A l.length c, .slice F f.length d, .slice S set.length d2, .int .i64 s, .int .i64 t] w fun e w' => e = .returned (.bool true) ∧ Below w.heap.size w w' := by
  have hm := hl.1
  have hmf := hf.1
  have hms := hs.1
  obtain ⟨W0, hW0⟩ : ∃ W0, W0 = ((w.alloc (.cells #[.slice S set.length d2] 23)).alloc (.cells #[.int .i64 s] 3)).alloc (.cells #[.int .i64 t] 3) := ⟨_, rfl⟩
  have hb0 : Below w.heap.size w W0 := by
    rw [hW0]
    exact (((Below.refl _ _).alloc (Nat.le_refl _) _).alloc (by simp) _).alloc (by simp; omega) _
  have hz0 : W0.heap.size = w.heap.size + 3 := by rw [hW0]; simp
  have c7 : W0.cell? ⟨w.heap.size, 0, none⟩ = some (.slice S set.length d2) := by
    rw [hW0, World.cell?_alloc_lt _ _ _ (by simp; omega), World.cell?_alloc_lt _ _ _ (by simp)]
    exact box_cell _ _ _ _ _ rfl
  have c8 : W0.cell? ⟨w.heap.size + 1, 0, none⟩ = some (.int .i64 s) := by
    rw [hW0, World.cell?_alloc_lt _ _ _ (by simp)]
    rw [show w.heap.size + 1 = (w.alloc (.cells #[.slice S set.length d2] 23)).heap.size by simp]
    exact box_cell _ #[.int .i64 s] 3 0 (.int .i64 s) rfl
  have c9 : W0.cell? ⟨w.heap.size + 2, 0, none⟩ = some (.int .i64 t) := by
    rw [hW0]
    rw [show w.heap.size + 2 = ((w.alloc (.cells #[.slice S set.length d2] 23)).alloc (.cells #[.int .i64 s] 3)).heap.size by simp]
    exact box_cell _ #[.int .i64 t] 3 0 (.int .i64 t) rfl
  have HA := Lib.hid (alive_any W0)
  have HF := Lib.hid (fun W (h : Below w.heap.size w W) => few_any A c l W (hl.below h))
  have HM := Lib.hid (fun (hr : Right l) W (h : Below w.heap.size w W) => max_any A c l s t W (hl.below h) hr)
  have HV := Lib.hid (fun (hr : Right l) W (h : Below w.heap.size w W) => valid_any A F c d l f s t W (hl.below h) (hf.below h) hr)
  have HU := Lib.hid (fun (h0 : f.length = l.length) W (h : Below w.heap.size w W) => value_any A F c d l f s W (hl.below h) (hf.below h) h0)
  have HC := Lib.hid (fun W (h : Below W0.heap.size W0 W) => (⟨(h.cell (by simp; omega)).trans c7, (h.cell (by simp; omega)).trans c8, (h.cell (by simp; omega)).trans c9⟩ : W.cell? ⟨w.heap.size, 0, none⟩ = some (.slice S set.length d2) ∧ W.cell? ⟨w.heap.size + 1, 0, none⟩ = some (.int .i64 s) ∧ W.cell? ⟨w.heap.size + 2, 0, none⟩ = some (.int .i64 t)))
  have HL := Lib.hid hl
  have HI := Lib.hid (fun n W (h : Below w.heap.size w W) => in_any ⟨w.heap.size, 0, none⟩ ⟨w.heap.size + 1, 0, none⟩ ⟨w.heap.size + 2, 0, none⟩ S d2 set s t n W (hs.below h))
  have HB0 := Lib.hid hb0
  have HZ0 := Lib.hid hz0
  clear hl hf hs hb0 hz0 c7 c8 c9
  go_enter Try.func7, Try.ntmps7
  go_wp2_with fail
  rw [← hW0]
  refine HA.out.mono ?_
  rintro e w1 ⟨rfl, hb1⟩
  have HB1 := Lib.hid hb1
  clear hb1 hW0
  have HB1w := Lib.hid (below_in HB0.out HB1.out HB0.out.size)
  go_wp2_with fail
  refine (HF.out _ HB1w.out).mono ?_
  rintro e w2 ⟨rfl, hb2⟩
  have HB2 := Lib.hid (HB1.out.trans (hb2.mono HB1.out.size))
  have HB2w := Lib.hid (below_in HB0.out HB2.out HB0.out.size)
  clear hb2
  obtain ⟨k7, k8, k9⟩ := HC.out _ HB2.out
  by_cases hfew : fewB l = true
  · have hr : Right l := by
      simp only [fewB, Bool.and_eq_true] at hfew
      exact rightB_iff.1 hfew.2
    rw [hfew]
    have H200 := hr.len
    have HR := Lib.hid hr
    clear hr
    by_cases h100 : f.length ≤ 100
    · have g1 : decide ((100 : Int) < (f.length : Int)) = false := by simp; omega
      by_cases hs100 : set.length ≤ 100
      · have g2 : decide ((100 : Int) < (set.length : Int)) = false := by simp; omega
        by_cases hst : s = t
        · have g3 : (s == t) = true := by simpa using hst
          go_wp2_with fail
          go_ret
          exact ⟨rfl, HB2w.out⟩
        · have g3 : (s == t) = false := by simpa using hst
          have HST := Lib.hid hst
          clear hst
          go_wp2_with fail
          refine (HM.out HR.out _ HB2w.out).mono ?_
          rintro e w3 ⟨rfl, hb3⟩
          have HB3 := Lib.hid (HB2.out.trans (hb3.mono HB2.out.size))
          have HB3w := Lib.hid (below_in HB0.out HB3.out HB0.out.size)
          clear hb3 k7 k8 k9
          obtain ⟨k7, k8, k9⟩ := HC.out _ HB3.out
          have hbd := maxV_bound HR.out s t
          have hcap : maxV l s t ≤ capOf (inT set s t) l := by
            obtain ⟨g, U, hM⟩ := exists_max A c l s t w HL.out HR.out HST.out
            rw [maxV_of hM]
            have : s ≠ t := HST.out
            exact hM.flow.weak _ (by simp [inT]) (by simp [inT, Ne.symm this])
          have hbc := capOf_bound (inT set s t) l (fun e he => ⟨(HR.out.ok e he).2.2.2.2.1, (HR.out.ok e he).2.2.2.2.2⟩)
          have HBD := Lib.hid hbd
          have HCAP := Lib.hid hcap
          have HBC := Lib.hid hbc
          clear hbd hcap hbc
          rcases (show validB l f s t = false ∨ validB l f s t = true by cases validB l f s t <;> simp) with hv | hv
          case' inl =>
            go_wp2_with fail
            refine (HV.out HR.out _ HB3w.out).mono ?_
            rintro e wx ⟨rfl, hb4⟩
            have HBX := Lib.hid (HB3.out.trans (hb4.mono HB3.out.size))
            clear hb4 k7 k8 k9
            rw [hv]
            go_wp2_with fail
          case' inr =>
            have hfl : IsFlow l f s t := validB_iff.1 hv
            have hwr := hfl.wrap HR.out s
            have hmo : net l f s ≤ maxV l s t := by
              obtain ⟨g, U, hM⟩ := exists_max A c l s t w HL.out HR.out HST.out
              rw [maxV_of hM]
              exact hM.most hfl
            have HU' := Lib.hid (HU.out hfl.len)
            have HWR := Lib.hid hwr
            have HMO := Lib.hid hmo
            clear hfl hwr hmo
            go_wp2_with fail
            refine (HV.out HR.out _ HB3w.out).mono ?_
            rintro e w4 ⟨rfl, hb4⟩
            have HB4 := Lib.hid (HB3.out.trans (hb4.mono HB3.out.size))
            have HB4w := Lib.hid (below_in HB0.out HB4.out HB0.out.size)
            clear hb4 k7 k8 k9
            obtain ⟨k7, k8, k9⟩ := HC.out _ HB4.out
            rw [hv]
            go_wp2_with fail
            refine (HU'.out _ HB4w.out).mono ?_
            rintro e wx ⟨rfl, hb5⟩
            have HBX := Lib.hid (HB4.out.trans (hb5.mono HB4.out.size))
            clear hb5 k7 k8 k9
            rw [HWR.out]
            have i1 : ¬ (maxV l s t < net l f s) := by have := HMO.out; omega
            go_wp2_with fail
          all_goals
            have HBXw := Lib.hid (below_in HB0.out HBX.out HB0.out.size)
            obtain ⟨k7, k8, k9⟩ := HC.out _ HBX.out
            go_loop [13, 14] (fun sv iv => ∃ i : Nat, i ≤ l.length ∧ iv = .int .i64 (i : Int) ∧ sv = .int .i64 (capOf (inT set s t) (l.take i))) (fun _ iv => l.length - (intOf iv).toNat)
            case atStart => exact ⟨0, by omega, rfl, rfl⟩
            case round =>
              obtain ⟨i, hi, rfl, rfl⟩ := hrel
              by_cases hlt : i < l.length
              · have hi1 : ((i : Int) < (l.length : Int)) := by omega
                obtain ⟨a, rfl⟩ := HL.out.addr hlt
                obtain ⟨z0, z1, z2, z3⟩ := HL.out.at_ HBXw.out hlt
                have hct := capOf_take (inT set s t) hlt
                have hcb := capOf_bound (inT set s t) (l.take i) (fun e he => ⟨(HR.out.ok e (List.mem_of_mem_take he)).2.2.2.2.1, (HR.out.ok e (List.mem_of_mem_take he)).2.2.2.2.2⟩)
                have hcc := right_cost HR.out hlt
                have hll : (l.take i).length ≤ 200 := by rw [List.length_take]; omega
                obtain ⟨x, hx⟩ : ∃ x, x = capOf (inT set s t) (l.take i) := ⟨_, rfl⟩
                rw [← hx] at hct hcb ⊢
                obtain ⟨hcb1, hcb2⟩ := hcb
                obtain ⟨hcc1, hcc2⟩ := hcc
                cases h1 : inT set s t (edAt l i).src
                · rw [h1] at hct
                  simp only [Bool.false_and, Bool.false_eq_true, if_false, Int.add_zero] at hct
                  have HCT := Lib.hid hct
                  clear hct hx
                  go_wp2_with fail
                  refine (HI.out _ _ HBXw.out k7 k8 k9).mono ?_
                  rintro e w6 ⟨rfl, rfl⟩
                  rw [h1]
                  go_wp2_with fail
                  go_round
                  case rel => exact ⟨i + 1, by omega, by go_num, by rw [HCT.out]⟩
                  case measure => simp [intOf]; omega
                · cases h2 : inT set s t (edAt l i).dst
                  · rw [h1, h2] at hct
                    simp only [Bool.not_false, Bool.and_true, if_true] at hct
                    have HCT := Lib.hid hct
                    clear hct hx
                    go_wp2_with fail
                    refine (HI.out _ _ HBXw.out k7 k8 k9).mono ?_
                    rintro e w6 ⟨rfl, rfl⟩
                    rw [h1]
                    go_wp2_with fail
                    refine (HI.out _ _ HBXw.out k7 k8 k9).mono ?_
                    rintro e w6 ⟨rfl, rfl⟩
                    rw [h2]
                    go_wp2_with fail
                    go_round
                    case rel => exact ⟨i + 1, by omega, by go_num, by rw [HCT.out]⟩
                    case measure => simp [intOf]; omega
                  · rw [h1, h2] at hct
                    simp only [Bool.not_true, Bool.and_false, Bool.false_eq_true, if_false, Int.add_zero] at hct
                    have HCT := Lib.hid hct
                    clear hct hx
                    go_wp2_with fail
                    refine (HI.out _ _ HBXw.out k7 k8 k9).mono ?_
                    rintro e w6 ⟨rfl, rfl⟩
                    rw [h1]
                    go_wp2_with fail
                    refine (HI.out _ _ HBXw.out k7 k8 k9).mono ?_
                    rintro e w6 ⟨rfl, rfl⟩
                    rw [h2]
                    go_wp2_with fail
                    go_round
                    case rel => exact ⟨i + 1, by omega, by go_num, by rw [HCT.out]⟩
                    case measure => simp [intOf]; omega
              · have hil : i = l.length := by omega
                subst hil
                rw [List.take_length]
                have hi1 : ¬ ((l.length : Int) < (l.length : Int)) := by omega
                have hle : maxV l s t ≤ capOf (inT set s t) l := HCAP.out
                go_wp2_with fail
                go_ret
                exact ⟨rfl, HBXw.out⟩
      · have g2 : decide ((100 : Int) < (set.length : Int)) = true := by simp; omega
        go_wp2_with fail
        go_ret
        exact ⟨rfl, HB2w.out⟩
    · have g1 : decide ((100 : Int) < (f.length : Int)) = true := by simp; omega
      go_wp2_with fail
      go_ret
      exact ⟨rfl, HB2w.out⟩
  · simp only [Bool.not_eq_true] at hfew
    rw [hfew]
    go_wp2_with fail
    go_ret
    exact ⟨rfl, HB2w.out⟩
end Go.Proofs.Ytambnjhopijkfaa
