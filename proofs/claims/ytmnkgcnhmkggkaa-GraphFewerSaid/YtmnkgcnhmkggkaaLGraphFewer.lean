/- Proved here: the law GraphFewer returns true for all arguments that read as edges and numbers, and changes nothing that was there before. -/
import Derived.Test.YtmnkgcnhmkggkaaFewTh
import Derived.Deep.RegionHeld3
namespace Go.Proofs.Ytmnkgcnhmkggkaa
open Go.RowKit
set_option maxRecDepth 100000 in
set_option maxHeartbeats 4000000 in
theorem graphFewer_walk (A : Option Addr) (c : Nat) (l : List Edge) (F : Option Addr) (d : Nat) (ids : List Int) (p q : Int) (_u0 : Unit) (w : World) (hl : RdE w A l) (hn : RdI w F ids)
    (hpq : (-9223372036854775808 ≤ p ∧ p ≤ 9223372036854775807) ∧ (-9223372036854775808 ≤ q ∧ q ≤ 9223372036854775807)) :
    Calls Try.prog 10 #[.slice A l.length c, .slice F ids.length d, .agg #[.int .i64 p, .int .i64 q]] w fun e w' => e = .returned (.bool true) ∧ Below w.heap.size w w' := by
  have hm := hl.1
  have hm2 := hn.1
  have HL := Lib.hid hl
  have HN := Lib.hid hn
  have HPQ := Lib.hid hpq
  clear hl hn hpq
  go_enter Try.func10, Try.ntmps10
  have HA := Lib.hid (alive_any (w.alloc (.cells #[.int .i64 p, .int .i64 q] 36)))
  go_wp2_with fail
  refine HA.out.mono ?_
  rintro e w1 ⟨rfl, hb⟩
  have HB := Lib.hid (below_in (box_below w _) hb (by simp))
  have HP := Lib.hid ((rdI_pair (W := w.alloc (.cells #[.int .i64 p, .int .i64 q] 36)) rfl rfl).below hb)
  clear hb HA
  have HC := Lib.hid (lright_any A c l w1 (HL.out.below HB.out))
  go_wp2_with fail
  refine HC.out.mono ?_
  rintro e w2 ⟨rfl, hb⟩
  replace HB := Lib.hid (below_in HB.out hb HB.out.size)
  replace HP := Lib.hid (HP.out.below hb)
  clear hb HC
  by_cases hr0 : errL l = 0
  · have hr := errL_zero hr0
    have hr1 : (errL l == 0) = true := by simp [hr0]
    rw [hr1]
    have HR := Lib.hid hr
    have h200 := hr.len
    clear hr hr0 hr1
    by_cases h60 : ids.length ≤ 60
    · have i1 : decide (60 < ids.length) = false := by simp; omega
      have i2 : decide ((60 : Int) < (ids.length : Int)) = false := by simp; omega
      have HC := Lib.hid (without_any A F c d l ids w2 (HL.out.below HB.out) (HN.out.below HB.out) (by omega))
      obtain ⟨wl, hwl⟩ : ∃ wl, wl = withoutL l ids := ⟨_, rfl⟩
      have HWR := Lib.hid (without_right HR.out ids)
      have HWM := Lib.hid (without_mem (l := l) (ids := ids))
      rw [← hwl] at HC HWR HWM
      have hw200 := HWR.out.len
      go_wp2_with fail
      refine HC.out.mono ?_
      rintro e w3 ⟨v3, rfl, ho, hb⟩
      obtain ⟨A3, c3, rfl, _, _⟩ := ho.slice
      replace HB := Lib.hid (below_in HB.out hb HB.out.size)
      replace HP := Lib.hid (HP.out.below hb)
      have HX := Lib.hid (ho.rdE (by omega))
      clear hb ho HC
      have HC := Lib.hid (rwithout_any A F c d l ids w3 (HL.out.below HB.out) (HN.out.below HB.out) (by omega))
      rw [← hwl] at HC
      clear hwl
      go_wp2_with fail
      refine HC.out.mono ?_
      rintro e w4 ⟨A4, c4, rfl, hr4, hb⟩
      replace HB := Lib.hid (below_in HB.out hb HB.out.size)
      replace HP := Lib.hid (HP.out.below hb)
      replace HX := Lib.hid (HX.out.below hb)
      have HC := Lib.hid (sameEdges_any A3 A4 c3 c4 wl w4 HX.out hr4)
      clear hb hr4
      go_wp2_with fail
      refine HC.out.mono ?_
      rintro e w5 ⟨rfl, hb⟩
      replace HB := Lib.hid (below_in HB.out hb HB.out.size)
      replace HP := Lib.hid (HP.out.below hb)
      replace HX := Lib.hid (HX.out.below hb)
      clear hb HC
      have hC := gright_any A3 c3 wl w5 HX.out
      rw [HWR.out.err] at hC
      have HC := Lib.hid hC
      clear hC
      go_wp2_with fail
      refine HC.out.mono ?_
      rintro e w6 ⟨rfl, hb⟩
      replace HB := Lib.hid (below_in HB.out hb HB.out.size)
      replace HP := Lib.hid (HP.out.below hb)
      replace HX := Lib.hid (HX.out.below hb)
      clear hb HC
      have HC1 := Lib.hid (show ∀ W, Below w6.heap.size w6 W → Calls Try.prog 16 #[.slice A3 wl.length c3, .slice (some ⟨w.heap.size, 0, none⟩) 2 2] W (fun e w' => ∃ A' c' ss, e = .returned (.slice A' ss.length c') ∧ RdI w' A' ss ∧ RS5 wl [p, q] ss ∧ Below W.heap.size W w') from fun W hW => by
        refine (greach_any A3 (some ⟨w.heap.size, 0, none⟩) c3 2 wl [p, q] W (HX.out.below hW) (HP.out.below hW) (by omega) (by simp) (by simpa using HPQ.out) HWR.out.dsts).mono ?_
        rintro e w' ⟨v, ss, rfl, ho, hs, hb⟩
        obtain ⟨A', c', rfl, _, _⟩ := ho.slice
        exact ⟨A', c', ss, rfl, ho.rdI, hs, hb⟩)
      have HC2 := Lib.hid (show ∀ W, Below w6.heap.size w6 W → Calls Try.prog 16 #[.slice A l.length c, .slice (some ⟨w.heap.size, 0, none⟩) 2 2] W (fun e w' => ∃ A' c' ss, e = .returned (.slice A' ss.length c') ∧ RdI w' A' ss ∧ RS5 l [p, q] ss ∧ Below W.heap.size W w') from fun W hW => by
        refine (greach_any A (some ⟨w.heap.size, 0, none⟩) c 2 l [p, q] W (HL.out.below (below_in HB.out hW HB.out.size)) (HP.out.below hW) (by omega) (by simp) (by simpa using HPQ.out) HR.out.dsts).mono ?_
        rintro e w' ⟨v, ss, rfl, ho, hs, hb⟩
        obtain ⟨A', c', rfl, _, _⟩ := ho.slice
        exact ⟨A', c', ss, rfl, ho.rdI, hs, hb⟩)
      have hb0 : Hid (Below w6.heap.size w6 w6) := Below.refl _ _
      have hb1 : Hid (Below w6.heap.size w6 w6.drew) := (Below.refl _ _).drew
      have HCE := Lib.hid (fun W (h : Below w6.heap.size w6 W) => HP.out.at_ (i := 0) h (by simp))
      go_wp2_with fail
      go_region_held3 (fun W : World => W.cell? ((⟨w.heap.size, 0, none⟩ : Addr).add 0) = some (.int .i64 (numAt [p, q] 0))) (first | exact HCE.out _ hb0.out | exact HCE.out _ hb1.out | exact HCE.out _ HBC.out | exact HCE.out _ HBB.out)
        (first
          | (go_at_call_of 16 (Value.slice A3 wl.length c3); refine (HC1.out _ (by first | exact hb0.out | exact hb1.out)).mono ?_; rintro e w7 ⟨A7, c7, s7, rfl, hr7, hs7, hb7⟩; have HR7 := Lib.hid hr7; have HS7 := Lib.hid hs7; have HBB := Lib.hid (show Below w6.heap.size w6 w7 from by first | exact hb7 | exact below_in hb1.out hb7 hb1.out.size); clear hr7 hs7 hb7)
          | (go_at_call 16; refine (HC2.out _ HBB.out).mono ?_; rintro e w8 ⟨A8, c8, s8, rfl, hr8, hs8, hb8⟩; have HR8 := Lib.hid hr8; have HS8 := Lib.hid hs8; have HB8 := Lib.hid hb8; have HBC := Lib.hid (below_in HBB.out hb8 HBB.out.size); clear hr8 hs8 hb8))
      all_goals
        replace HB := Lib.hid (below_in HB.out HBC.out HB.out.size)
        replace HP := Lib.hid (HP.out.below HBC.out)
        replace HX := Lib.hid (HX.out.below HBC.out)
        have HR9 := Lib.hid (HR7.out.below HB8.out)
        have HSUB := Lib.hid (RS5.fewer HWM.out HS7.out HS8.out)
        have h7l := HR9.out.1
        clear hb0 hb1 HCE HC1 HC2 HBB HBC HB8 HR7 HS7 HS8
        go_wp2_with fail
        go_loop [10] (fun i => ∃ k : Nat, k ≤ s7.length ∧ i = .int .i64 k) (fun i => s7.length - (intOf i).toNat)
        case atStart => exact ⟨0, Nat.zero_le _, rfl⟩
        case round =>
          obtain ⟨k, hk, rfl⟩ := hrel
          by_cases hlt : k < s7.length
          · have i3 : ((k : Int) < (s7.length : Int)) := by omega
            obtain ⟨a7, rfl⟩ := HR9.out.addr hlt
            have c0 := HR9.out.at_ (Below.refl _ _) hlt
            have HC := Lib.hid (has_any A8 c8 s8 (numAt s7 k) w8 HR8.out)
            rw [decide_eq_true (HSUB.out _ (List.mem_of_getElem? (numAt_eq hlt)))] at HC
            go_wp2_with fail
            refine HC.out.mono ?_
            rintro e w9 ⟨rfl, rfl⟩
            go_wp2_with fail
            go_round
            case rel => exact ⟨k + 1, by omega, by go_num⟩
            case measure => simp [intOf]; omega
          · have i3 : ¬ ((k : Int) < (s7.length : Int)) := by omega
            have y0 : w8.cell? ⟨w.heap.size, 0, none⟩ = some (.int .i64 p) := by
              have := HP.out.at_ (i := 0) (Below.refl _ _) (by simp)
              rw [Addr.add_lit] at this
              exact this
            have y1 : w8.cell? ⟨w.heap.size, 1, none⟩ = some (.int .i64 q) := by
              have := HP.out.at_ (i := 1) (Below.refl _ _) (by simp)
              rw [Addr.add_lit] at this
              exact this
            have HC := Lib.hid (short_any A3 c3 wl p q w8 HX.out HWR.out)
            go_wp2_with fail
            refine HC.out.mono ?_
            rintro e w9 ⟨v9, ids9, n9, ok9, rfl, hs9, _, ho9, hb⟩
            obtain ⟨A9, c9, rfl, _, _⟩ := ho9.slice
            replace HB := Lib.hid (below_in HB.out hb HB.out.size)
            replace HP := Lib.hid (HP.out.below hb)
            have HS9 := Lib.hid hs9
            clear hb ho9 hs9 HC y0 y1
            have y0 : w9.cell? ⟨w.heap.size, 0, none⟩ = some (.int .i64 p) := by
              have := HP.out.at_ (i := 0) (Below.refl _ _) (by simp)
              rw [Addr.add_lit] at this
              exact this
            have y1 : w9.cell? ⟨w.heap.size, 1, none⟩ = some (.int .i64 q) := by
              have := HP.out.at_ (i := 1) (Below.refl _ _) (by simp)
              rw [Addr.add_lit] at this
              exact this
            have HC := Lib.hid (short_any A c l p q w9 (HL.out.below HB.out) HR.out)
            go_wp2_with fail
            refine HC.out.mono ?_
            rintro e w10 ⟨v10, ids10, n10, ok10, rfl, hs10, _, ho10, hb⟩
            obtain ⟨A10, c10, rfl, _, _⟩ := ho10.slice
            replace HB := Lib.hid (below_in HB.out hb HB.out.size)
            have hres := fun h => HS9.out.fewer HWM.out hs10 h
            clear hb ho10 hs10 HC y0 y1
            cases ok9 with
            | false =>
              clear hres
              go_wp2_with fail
              go_ret
              exact ⟨rfl, HB.out⟩
            | true =>
              obtain ⟨rfl, hle⟩ := hres rfl
              clear hres
              go_wp2_with fail
              go_ret
              exact ⟨rfl, HB.out⟩
    · have i1 : 60 < ids.length := by omega
      have i2 : (60 : Int) < (ids.length : Int) := by omega
      go_wp2_with fail
      go_ret
      exact ⟨rfl, HB.out⟩
  · have hr1 : (errL l == 0) = false := by simp [hr0]
    rw [hr1]
    go_wp2_with fail
    go_ret
    exact ⟨rfl, HB.out⟩
end Go.Proofs.Ytmnkgcnhmkggkaa
