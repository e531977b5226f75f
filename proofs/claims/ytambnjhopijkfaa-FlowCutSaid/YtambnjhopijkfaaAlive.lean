/- Proved here: alive returns true. No condition. -/
import Derived.Test.YtambnjhopijkfaaAliveTh
import Derived.Test.YtambnjhopijkfaaCut
namespace Go.Proofs.Ytambnjhopijkfaa
open Go.RowKit
theorem rdI_new (W : World) (xs : List Int) (h : xs.length ≤ 1000) (b : Nat) (hb : b = W.heap.size) : RdI (W.alloc (.cells (xs.map (Value.int .i64)).toArray 3)) (some ⟨b, 0, none⟩) xs := by
  refine ⟨by omega, fun i hi => ⟨_, rfl, ?_⟩⟩
  exact box_cells W (xs.map (Value.int .i64)).toArray 3 b hb i _ (by simp [List.getElem?_map, numAt_eq hi])

set_option maxRecDepth 100000 in
set_option maxHeartbeats 4000000 in
/-- law06.alive -/
theorem alive_any (w : World) : Calls Try.prog 11 #[] w fun e w' => e = .returned (.bool true) ∧ Below w.heap.size w w' := by
  have HE := Lib.hid (edges_any w)
  go_enter Try.func11, Try.ntmps11
  go_wp2_with fail
  refine HE.out.mono ?_
  rintro e w1 ⟨rfl, hb0, hl, hsz⟩
  have HB0 := Lib.hid hb0
  have HSZ := Lib.hid hsz
  have hM : ∀ (s t v : Int), maxV sample s t = v → ∀ W, Below w1.heap.size w1 W → Calls Try.prog 17 #[.slice (some ⟨w.heap.size, 0, none⟩) 5 5, .int .i64 s, .int .i64 t] W fun e w' => e = .returned (.int .i64 v) ∧ Below W.heap.size W w' := by
    intro s t v hv W hW
    rw [← hv]
    exact max_any _ 5 sample s t W (hl.below hW) right_sample
  have hV : ∀ (f : List Int) (s t : Int) (v : Bool), f.length = 5 → validB sample f s t = v → ∀ W, Below w1.heap.size w1 W → Calls Try.prog 14 #[.slice (some ⟨w.heap.size, 0, none⟩) 5 5, .slice (some ⟨W.heap.size, 0, none⟩) 5 5, .int .i64 s, .int .i64 t] (W.alloc (.cells (f.map (Value.int .i64)).toArray 3)) fun e w' => e = .returned (.bool v) ∧ Below W.heap.size W w' := by
    intro f s t v hf hv W hW
    rw [← hv]
    have hc := valid_any _ (some ⟨W.heap.size, 0, none⟩) 5 5 sample f s t (W.alloc (.cells (f.map (Value.int .i64)).toArray 3)) (hl.below (hW.alloc hW.size _)) (rdI_new W f (by omega) _ rfl) right_sample
    rw [hf] at hc
    exact hc.mono fun e w' ⟨a, b⟩ => ⟨a, below_in (box_below W _) b (by simp)⟩
  have hU : ∀ W, Below w1.heap.size w1 W → Calls Try.prog 15 #[.slice (some ⟨w.heap.size, 0, none⟩) 5 5, .slice (some ⟨W.heap.size, 0, none⟩) 5 5, .int .i64 1] (W.alloc (.cells #[.int .i64 3, .int .i64 2, .int .i64 2, .int .i64 1, .int .i64 4] 3)) fun e w' => e = .returned (.int .i64 5) ∧ Below W.heap.size W w' := by
    intro W hW
    have hc := value_any _ (some ⟨W.heap.size, 0, none⟩) 5 5 sample [3, 2, 2, 1, 4] 1 (W.alloc (.cells (([3, 2, 2, 1, 4] : List Int).map (Value.int .i64)).toArray 3)) (hl.below (hW.alloc hW.size _)) (rdI_new W _ (by simp) _ rfl) rfl
    rw [value1] at hc
    exact hc.mono fun e w' ⟨a, b⟩ => ⟨a, below_in (box_below W _) b (by simp)⟩
  have hC : ∀ (s t : Int) (v : List Int), cutL sample s t = v → ∀ W, Below w1.heap.size w1 W → Calls Try.prog 21 #[.slice (some ⟨w.heap.size, 0, none⟩) 5 5, .int .i64 s, .int .i64 t] W fun e w' => ∃ A c, e = .returned (.slice A v.length c) ∧ RdI w' A v ∧ Below W.heap.size W w' := by
    intro s t v hv W hW
    have hc := cut_any _ 5 sample s t W (hl.below hW) right_sample
    rw [hv] at hc
    refine hc.mono ?_
    rintro e w' ⟨x, rfl, ho, hb⟩
    obtain ⟨A, c, rfl, _, _⟩ := ho.slice
    exact ⟨A, c, rfl, ho.rdI, hb⟩
  have hS : ∀ (A : Option Addr) (c : Nat) W, RdI W A [0, 1] → Calls Try.prog 20 #[.slice A 2 c, .slice (some ⟨W.heap.size, 0, none⟩) 2 2] (W.alloc (.cells #[.int .i64 0, .int .i64 1] 3)) fun e w' => e = .returned (.bool true) ∧ Below W.heap.size W w' := by
    intro A c W hA
    have hc := same_any A (some ⟨W.heap.size, 0, none⟩) c 2 [0, 1] [0, 1] (W.alloc (.cells (([0, 1] : List Int).map (Value.int .i64)).toArray 3)) (hA.below (box_below W _)) (rdI_new W _ (by simp) _ rfl)
    exact hc.mono fun e w' ⟨a, b⟩ => ⟨by rw [a]; simp, below_in (box_below W _) b (by simp)⟩
  have hF : ∀ W, Below w1.heap.size w1 W → Calls Try.prog 19 #[.slice (some ⟨w.heap.size, 0, none⟩) 5 5, .int .i64 2, .int .i64 2] W fun e w' => ∃ A c, e = .returned (.slice A 5 c) ∧ Below W.heap.size W w' := by
    intro W hW
    refine (find_eq _ 5 sample 2 W (hl.below hW) (by decide)).mono ?_
    rintro e w' ⟨x, rfl, ho, hb⟩
    obtain ⟨A, c, rfl, _, _⟩ := ho.slice
    exact ⟨A, c, rfl, hb⟩
  have HM := Lib.hid hM
  have HV := Lib.hid hV
  have HU := Lib.hid hU
  have HC := Lib.hid hC
  have HS := Lib.hid hS
  have HF := Lib.hid hF
  clear hM hV hU hC hS hF hb0 hl hsz
  have HB := Lib.hid (Below.refl w1.heap.size w1)
  go_wp2_with fail
  refine (HM.out 1 4 _ max14 _ HB.out).mono ?_
  rintro e w2 ⟨rfl, hb⟩
  replace HB := Lib.hid (HB.out.trans (hb.mono HB.out.size))
  clear hb
  go_wp2_with fail
  refine (HV.out [3, 2, 2, 1, 4] 1 4 _ rfl valid1 _ HB.out).mono ?_
  rintro e w3 ⟨rfl, hb⟩
  replace HB := Lib.hid (HB.out.trans (hb.mono HB.out.size))
  clear hb
  go_wp2_with fail
  refine (HU.out _ HB.out).mono ?_
  rintro e w4 ⟨rfl, hb⟩
  replace HB := Lib.hid (HB.out.trans (hb.mono HB.out.size))
  clear hb
  go_wp2_with fail
  refine (HC.out 1 4 _ cut14 _ HB.out).mono ?_
  rintro e w5 ⟨A1, c1, rfl, hr1, hb⟩
  replace HB := Lib.hid (HB.out.trans (hb.mono HB.out.size))
  clear hb
  go_wp2_with fail
  refine (HS.out A1 c1 _ hr1).mono ?_
  rintro e w6 ⟨rfl, hb⟩
  replace HB := Lib.hid (HB.out.trans (hb.mono HB.out.size))
  clear hr1
  clear hb
  go_wp2_with fail
  refine (HM.out 4 1 _ max41 _ HB.out).mono ?_
  rintro e w7 ⟨rfl, hb⟩
  replace HB := Lib.hid (HB.out.trans (hb.mono HB.out.size))
  clear hb
  go_wp2_with fail
  refine (HC.out 4 1 _ cut41 _ HB.out).mono ?_
  rintro e w8 ⟨A2, c2, rfl, _, hb⟩
  replace HB := Lib.hid (HB.out.trans (hb.mono HB.out.size))
  clear hb
  go_wp2_with fail
  refine (HM.out 1 9 _ max19 _ HB.out).mono ?_
  rintro e w9 ⟨rfl, hb⟩
  replace HB := Lib.hid (HB.out.trans (hb.mono HB.out.size))
  clear hb
  go_wp2_with fail
  refine (HC.out 1 9 _ cut19 _ HB.out).mono ?_
  rintro e w10 ⟨A3, c3, rfl, _, hb⟩
  replace HB := Lib.hid (HB.out.trans (hb.mono HB.out.size))
  clear hb
  go_wp2_with fail
  refine (HV.out [3, 2, 2, 1, 3] 1 4 _ rfl valid2 _ HB.out).mono ?_
  rintro e w11 ⟨rfl, hb⟩
  replace HB := Lib.hid (HB.out.trans (hb.mono HB.out.size))
  clear hb
  go_wp2_with fail
  refine (HV.out [3, 2, 2, 1, 1] 1 3 _ rfl valid3 _ HB.out).mono ?_
  rintro e w12 ⟨rfl, hb⟩
  replace HB := Lib.hid (HB.out.trans (hb.mono HB.out.size))
  clear hb
  go_wp2_with fail
  refine (HF.out _ HB.out).mono ?_
  rintro e w13 ⟨A4, c4, rfl, hb⟩
  replace HB := Lib.hid (HB.out.trans (hb.mono HB.out.size))
  clear hb
  go_wp2
  go_ret
  exact ⟨rfl, HB0.out.trans (HB.out.mono HB0.out.size)⟩
end Go.Proofs.Ytambnjhopijkfaa
