/- Proved here: the law WaysBases returns true for all arguments that read, and changes nothing that was there before. Written by gen_wlaw.py. -/
import Derived.Test.YtoeiongnjogpeaaHomeTh
namespace Go.Proofs.Ytoeiongnjogpeaa
open Go.RowKit
set_option maxRecDepth 100000 in
set_option maxHeartbeats 4000000 in
theorem waysBases_walk (V : OpenA) (x : OpenM) (_u0 : Unit) (w : World) (hx : RdO w V x) :
    Calls Try.prog 10 #[openV V x] w fun e w' => e = .returned (.bool true) ∧ Below w.heap.size w w' := by
  obtain ⟨W1, hW1⟩ : ∃ W1, W1 = w.alloc (.cells #[.slice V.V.N x.m.nodes.length V.V.n, .slice V.V.L x.m.lifts.length V.V.l, .slice V.V.R x.m.runs.length V.V.r, .slice V.V.B x.m.bases.length V.V.b, .slice V.lifts x.lifts.length V.lc, .slice V.runs x.runs.length V.rc] 52) := ⟨_, rfl⟩
  have hb1 : Below w.heap.size w W1 := by rw [hW1]; exact box_below _ _
  have hbox : openBox W1 w.heap.size V.V.N V.V.L V.V.R V.V.B V.lifts V.runs V.V.n V.V.l V.V.r V.V.b V.lc V.rc x := by rw [hW1]; exact openBox_new _ _ _ _ _ _ _ _ _ _ _ _ _ _
  have ha := walive_any W1
  have hsm := fun W (h : Below W1.heap.size W1 W) => small_any V x W ((hx.below hb1).below h)
  have HXX := Lib.hid (hx.below hb1)
  unfold openV at hsm
  obtain ⟨V_, hVV⟩ : ∃ V_, V_ = V := ⟨_, rfl⟩
  rw [← hVV] at HXX
  have HVV := Lib.hid hVV
  obtain ⟨⟨N_, L_, R_, B_, nc, lc, rc, bc⟩, F_, G_, fc, gc⟩ := V
  dsimp only at hbox hsm hW1
  have HA := Lib.hid ha
  have HSM := Lib.hid hsm
  have HBOX := Lib.hid (fun W (h : Below W1.heap.size W1 W) => hbox.below h)
  have HB1 := Lib.hid hb1
  clear hx hb1 hbox ha hsm hVV
  unfold openV
  dsimp only
  go_enter Try.func10, Try.ntmps10
  rw [hW1] at HA
  go_wp2_with fail
  refine HA.out.mono ?_
  rw [← hW1]
  rintro e w2 ⟨rfl, hb⟩
  have HB2 := Lib.hid hb
  obtain ⟨q0, q1, q2, q3, q4, q5⟩ := HBOX.out w2 HB2.out
  have HS2 := Lib.hid (HSM.out w2 HB2.out)
  clear hb HA HSM hW1
  go_wp2_with fail
  refine HS2.out.mono ?_
  rintro e w3 ⟨sb, rfl, hsb, hb⟩
  have HB3 := Lib.hid (below_go HB2.out hb)
  have HSB := Lib.hid hsb
  clear hb HS2 hsb q0 q1 q2 q3 q4 q5
  cases sb with
  | false =>
    go_wp2_with fail
    go_ret
    exact ⟨rfl, below_in HB1.out HB3.out HB1.out.size⟩
  | true =>
    obtain ⟨h100, h101, hok⟩ := HSB.out rfl
    have HOK := Lib.hid hok
    obtain ⟨H, hH⟩ : ∃ H, H = w.heap.size := ⟨_, rfl⟩
    have HBX := Lib.hid (fun W (h : Below w3.heap.size w3 W) => HBOX.out W (below_go HB3.out h))
    have HX3 := Lib.hid (HXX.out.below HB3.out)
    have HBE := Lib.hid (below_in HB1.out HB3.out HB1.out.size)
    rw [← hH] at HBX ⊢
    clear HSB hok hH HBOX HXX HB3 HB2 HB1
    have cs := fun W (h : Below w3.heap.size w3 W) => wstr_any V_.V x.m HOK.out V_.lifts V_.runs V_.lc V_.rc x.lifts x.runs W (HX3.out.m.below h) (HX3.out.lifts.below h) (HX3.out.runs.below h)
    rw [HVV.out] at cs
    unfold mapV at cs
    dsimp only at cs
    have CS := Lib.hid cs
    clear cs
    have cr := fun W (h : Below w3.heap.size w3 W) => wreach_any V_.V x.m HOK.out V_.lifts V_.runs V_.lc V_.rc x.lifts x.runs W (HX3.out.m.below h) (HX3.out.lifts.below h) (HX3.out.runs.below h)
    rw [HVV.out] at cr
    unfold mapV at cr
    dsimp only at cr
    have CR := Lib.hid cr
    clear cr
    have ch := fun W (h : Below w3.heap.size w3 W) => whome_any V_.V x.m HOK.out V_.runs V_.rc x.runs W (HX3.out.m.below h) (HX3.out.runs.below h)
    rw [HVV.out] at ch
    unfold mapV at ch
    dsimp only at ch
    have CH := Lib.hid ch
    clear ch
    have hb0 : Hid (Below w3.heap.size w3 w3) := Below.refl _ _
    have hb2 : Hid (Below w3.heap.size w3 w3.drew) := (Below.refl _ _).drew
    go_wp2_with fail
    go_region_held3 (fun W : World => W.cell? ⟨H, 0, none⟩ = some (.slice N_ x.m.nodes.length nc) ∧ W.cell? ⟨H, 1, none⟩ = some (.slice L_ x.m.lifts.length lc) ∧ W.cell? ⟨H, 2, none⟩ = some (.slice R_ x.m.runs.length rc) ∧ W.cell? ⟨H, 3, none⟩ = some (.slice B_ x.m.bases.length bc) ∧ W.cell? ⟨H, 4, none⟩ = some (.slice F_ x.lifts.length fc) ∧ W.cell? ⟨H, 5, none⟩ = some (.slice G_ x.runs.length gc))
      (first | exact HBX.out _ HB8.out | exact HBX.out _ hb0.out | exact HBX.out _ hb2.out)
      (first | (go_at_call 24; refine (CR.out _ (by first | exact HB8.out | exact hb2.out | exact hb0.out)).mono ?_; rintro e w8 ⟨AR, cR, sR, rfl, hs8, hr8, hb8⟩; (try have HRH := Lib.hid (HRH.out.below hb8)); (try have HRD := Lib.hid (HRD.out.below hb8)); have HB8 := Lib.hid (show Below w3.heap.size w3 w8 from by first | exact below_go HB8.out hb8 | exact below_go hb2.out hb8 | exact below_go hb0.out hb8); have HRR := Lib.hid hr8; have HSR := Lib.hid hs8; clear hb8 hr8 hs8) | (go_at_call 14; refine (CH.out _ (by first | exact HB8.out | exact hb2.out | exact hb0.out)).mono ?_; rintro e w8 ⟨AH, cH, sH, rfl, hs8, hr8, hb8⟩; (try have HRR := Lib.hid (HRR.out.below hb8)); (try have HRD := Lib.hid (HRD.out.below hb8)); have HB8 := Lib.hid (show Below w3.heap.size w3 w8 from by first | exact below_go HB8.out hb8 | exact below_go hb2.out hb8 | exact below_go hb0.out hb8); have HRH := Lib.hid hr8; have HSH := Lib.hid hs8; clear hb8 hr8 hs8) | (go_at_call 27; refine (CS.out _ (by first | exact HB8.out | exact hb2.out | exact hb0.out)).mono ?_; rintro e w8 ⟨AD, cD, sD, rfl, hs8, hr8, hb8⟩; (try have HRR := Lib.hid (HRR.out.below hb8)); (try have HRH := Lib.hid (HRH.out.below hb8)); have HB8 := Lib.hid (show Below w3.heap.size w3 w8 from by first | exact below_go HB8.out hb8 | exact below_go hb2.out hb8 | exact below_go hb0.out hb8); have HRD := Lib.hid hr8; have HSD := Lib.hid hs8; clear hb8 hr8 hs8))
    all_goals
      clear CR CH CS hb0 hb2
      obtain ⟨w5, hw5⟩ : ∃ w5, w5 = w8 := ⟨_, rfl⟩
      rw [← hw5] at HB8 HRR HRH HRD ⊢
      clear hw5
      have HX5 := Lib.hid (HX3.out.below HB8.out)
      have HBY := Lib.hid (fun W (h : Below w5.heap.size w5 W) => HBX.out W (below_go HB8.out h))
      have HBE5 := Lib.hid (below_in HBE.out HB8.out HBE.out.size)
      have hmD := HRD.out.1
      have hmR := HRR.out.1
      have hmH := HRH.out.1
      clear HBX HBE HX3 HB8
      have cw := fun u W (h : Below w5.heap.size w5 W) => wway_ex V_.V x.m HOK.out V_.runs V_.rc x.runs u W (HX5.out.m.below h) (HX5.out.runs.below h)
      rw [HVV.out] at cw
      unfold mapV at cw
      dsimp only at cw
      have CW := Lib.hid cw
      clear cw
      have cq := fun W (h : Below w5.heap.size w5 W) => wreach_bare V_.V x.m HOK.out W (HX5.out.m.below h)
      rw [HVV.out] at cq
      unfold mapV at cq
      dsimp only at cq
      have CQ := Lib.hid cq
      clear cq
      have cg := fun W (h : Below w5.heap.size w5 W) => whome_bare V_.V x.m HOK.out W (HX5.out.m.below h)
      rw [HVV.out] at cg
      unfold mapV at cg
      dsimp only at cg
      have CG := Lib.hid cg
      clear cg
      have cu := fun W (h : Below w5.heap.size w5 W) => wstr_bare V_.V x.m HOK.out W (HX5.out.m.below h)
      rw [HVV.out] at cu
      unfold mapV at cu
      dsimp only at cu
      have CU := Lib.hid cu
      clear cu
      have hrb := HX5.out.m.bases
      have hmB := hrb.1
      rw [HVV.out] at hrb
      dsimp only at hrb
      have HRB := Lib.hid hrb
      have SM := Lib.hid (fun A c W (h : Below w5.heap.size w5 W) (hl : RdI W A x.m.bases) => (same_any A B_ c bc x.m.bases x.m.bases W hl (HRB.out.below h)).mono (fun e w' (h : e = .returned (.bool (decide (x.m.bases = x.m.bases))) ∧ Below W.heap.size W w') => (⟨by rw [h.1]; simp, h.2⟩ : e = .returned (.bool true) ∧ Below W.heap.size W w')))
      clear HX5 HVV hrb
      go_wp2_with fail
      go_loopw [6] (fun iv wr => ∃ k : Nat, k ≤ x.m.bases.length ∧ iv = .int .i64 k ∧ Hid (Below w5.heap.size w5 wr)) (fun iv _ => x.m.bases.length - (intOf iv).toNat)
      case atStart => exact ⟨0, Nat.zero_le _, rfl, Below.refl _ _⟩
      case round =>
        obtain ⟨k, hk, rfl, HB⟩ := hrel
        by_cases hlt : k < x.m.bases.length
        · have i1 : ((k : Int) < (x.m.bases.length : Int)) := by omega
          clear CQ CG CU SM
          obtain ⟨a, rfl⟩ := HRB.out.addr hlt
          obtain ⟨b, hu⟩ : ∃ b, b = numAt x.m.bases k := ⟨_, rfl⟩
          have HCK := Lib.hid (fun W (h : Below w5.heap.size w5 W) => (⟨(HBY.out W h).1, (HBY.out W h).2.1, (HBY.out W h).2.2.1, (HBY.out W h).2.2.2.1, (HBY.out W h).2.2.2.2.1, (HBY.out W h).2.2.2.2.2, by rw [hu]; exact HRB.out.at_ h hlt⟩ : W.cell? ⟨H, 0, none⟩ = some (.slice N_ x.m.nodes.length nc) ∧ W.cell? ⟨H, 1, none⟩ = some (.slice L_ x.m.lifts.length lc) ∧ W.cell? ⟨H, 2, none⟩ = some (.slice R_ x.m.runs.length rc) ∧ W.cell? ⟨H, 3, none⟩ = some (.slice (some a) x.m.bases.length bc) ∧ W.cell? ⟨H, 4, none⟩ = some (.slice F_ x.lifts.length fc) ∧ W.cell? ⟨H, 5, none⟩ = some (.slice G_ x.runs.length gc) ∧ W.cell? (a.add k) = some (.int .i64 b)))
          have hbm : b ∈ x.m.bases := by rw [hu]; exact numAt_mem hlt
          have hh1 := fun W (h : Below w5.heap.size w5 W) => has_any AR cR sR b W (HRR.out.below h)
          have hh2 := fun W (h : Below w5.heap.size w5 W) => has_any AH cH sH b W (HRH.out.below h)
          rw [decide_eq_true (HSR.out.sub b hbm)] at hh1
          rw [decide_eq_true (HSH.out.sub b hbm)] at hh2
          have HH1 := Lib.hid hh1
          have HH2 := Lib.hid hh2
          have HBW := Lib.hid (fun st => base_way HOK.out hbm (runs := x.runs) (st := st))
          have hb0 : Hid (Below w5.heap.size w5 wr) := HB.out
          have hb2 : Hid (Below w5.heap.size w5 wr.drew) := HB.out.drew
          obtain ⟨q0, q1, q2, q3, q4, q5, q6⟩ := HCK.out _ HB.out
          clear hu HB hbm hh1 hh2
          go_wp2_with fail
          clear q0 q1 q2 q3 q4 q5 q6
          go_region_held3 (fun W : World => W.cell? ⟨H, 0, none⟩ = some (.slice N_ x.m.nodes.length nc) ∧ W.cell? ⟨H, 1, none⟩ = some (.slice L_ x.m.lifts.length lc) ∧ W.cell? ⟨H, 2, none⟩ = some (.slice R_ x.m.runs.length rc) ∧ W.cell? ⟨H, 3, none⟩ = some (.slice (some a) x.m.bases.length bc) ∧ W.cell? ⟨H, 4, none⟩ = some (.slice F_ x.lifts.length fc) ∧ W.cell? ⟨H, 5, none⟩ = some (.slice G_ x.runs.length gc) ∧ W.cell? (a.add k) = some (.int .i64 b))
            (first | exact HCK.out _ HB8.out | exact HCK.out _ hb0.out | exact HCK.out _ hb2.out)
            (first | (go_at_call 29; refine (CW.out b _ (by first | exact HB8.out | exact hb2.out | exact hb0.out)).mono ?_; rintro e w8 ⟨A8, c8, ids, n, okw, rfl, hs8, hr8, hb8⟩; have HB8 := Lib.hid (show Below w5.heap.size w5 w8 from by first | exact below_go HB8.out hb8 | exact below_go hb2.out hb8 | exact below_go hb0.out hb8); have HS8 := Lib.hid hs8; clear hb8 hr8 hs8))
          all_goals
            obtain ⟨q0, q1, q2, q3, q4, q5, q6⟩ := HCK.out _ HB8.out
            obtain ⟨e1, e2, e3⟩ := HBW.out _ HS8.out
            dsimp only at e1 e2 e3
            subst e2
            subst e3
            rw [e1]
            have HC1 := Lib.hid (HH1.out _ HB8.out)
            have HC2 := Lib.hid (HH2.out _ HB8.out)
            clear e1 HS8 HBW HH1 HH2 CW hb0 hb2
            go_wp2_with fail
            refine HC1.out.mono ?_
            rintro e w9 ⟨rfl, rfl⟩
            clear HC1
            go_wp2_with fail
            refine HC2.out.mono ?_
            rintro e w9 ⟨rfl, rfl⟩
            clear HC2
            go_wp2_with fail
            go_roundw
            case rel => exact ⟨k + 1, by omega, by go_num, HB8.out⟩
            case measure => simp [intOf]; omega
        · have i1 : ¬ ((k : Int) < (x.m.bases.length : Int)) := by omega
          obtain ⟨q0, q1, q2, q3, q4, q5⟩ := HBY.out _ HB.out
          obtain ⟨w6, hw6⟩ : ∃ w6, w6 = wr := ⟨_, rfl⟩
          rw [← hw6] at HB q0 q1 q2 q3 q4 q5 ⊢
          clear hw6 CW
          go_wp2_with fail
          clear q0 q1 q2 q3 q4 q5 hlt i1 hk
          go_loopw [10] (fun iv wr => ∃ k : Nat, k ≤ sR.length ∧ iv = .int .i64 k ∧ Hid (Below w6.heap.size w6 wr)) (fun iv _ => sR.length - (intOf iv).toNat)
          case atStart => exact ⟨0, Nat.zero_le _, rfl, Below.refl _ _⟩
          case round =>
            obtain ⟨k, hk, rfl, HB6⟩ := hrel
            have HBQ := Lib.hid (below_go HB.out HB6.out)
            by_cases hlt : k < sR.length
            · have i1 : ((k : Int) < (sR.length : Int)) := by omega
              clear CQ CG CU SM
              obtain ⟨az, rfl⟩ := HRR.out.addr hlt
              have c0 := HRR.out.at_ HBQ.out hlt
              have HHX := Lib.hid (fun n => (has_any AD cD sD (numAt sR k) (wr.drewN n) (HRD.out.below (below_drewN HBQ.out n))).mono fun e w' ⟨h1, h2⟩ => (⟨h1, h2.symm⟩ : e = _ ∧ w' = wr.drewN n))
              have HHY := Lib.hid (fun n => (has_any AH cH sH (numAt sR k) (wr.drewN n) (HRH.out.below (below_drewN HBQ.out n))).mono fun e w' ⟨h1, h2⟩ => (⟨h1, h2.symm⟩ : e = _ ∧ w' = wr.drewN n))
              have hdb := str_mem HSD.out HSR.out HSH.out (numAt_mem hlt)
              rw [hdb] at HHX
              have hSOR := HSR.out.sorted
              clear hdb
              rcases Nat.eq_zero_or_pos k with hk0 | hk0
              · have t0 : decide (0 < k) = false := by simp; omega
                have t3 : decide ((0 : Int) < (k : Int)) = false := by simp; omega
                have HK0 := Lib.hid hk0
                clear hk0 hSOR
                by_cases hx : numAt sR k ∈ sH
                · rw [decide_eq_true hx] at HHX HHY
                  clear hx
                  go_wp2_with fail
                  go_big_quiet ((first | (go_at_call_of 35 (Value.slice AD sD.length cD); refine Calls.quiet_of_same (HHX.out _)) | (go_at_call 35; refine Calls.quiet_of_same (HHY.out _))))
                  go_wp2_with fail
                  go_roundw
                  case rel => exact ⟨k + 1, by omega, by go_num, below_drewN HB6.out _⟩
                  case measure => simp [intOf]; omega
                · rw [decide_eq_false hx] at HHX HHY
                  clear hx
                  go_wp2_with fail
                  go_big_quiet ((first | (go_at_call_of 35 (Value.slice AD sD.length cD); refine Calls.quiet_of_same (HHX.out _)) | (go_at_call 35; refine Calls.quiet_of_same (HHY.out _))))
                  go_wp2_with fail
                  go_roundw
                  case rel => exact ⟨k + 1, by omega, by go_num, below_drewN HB6.out _⟩
                  case measure => simp [intOf]; omega
              · obtain ⟨j, hj⟩ : ∃ j, k = j + 1 := ⟨k - 1, by omega⟩
                have d0 := HRR.out.at_ HBQ.out (show j < sR.length by omega)
                have hst : numAt sR j < numAt sR k := by
                  rw [hj] at hlt ⊢
                  exact sorted_step hSOR hlt
                have t5 : decide (numAt sR k ≤ numAt sR j) = false := by simp; omega
                have W1_ := Lib.hid (show IntKind.i64.wrap ((k : Int) - 1) = (j : Int) by rw [show (k : Int) - 1 = (j : Int) by omega]; exact IntWalk.i64_in _ (by omega))
                have t6 : (0 : Int) < (k : Int) := by omega
                have t7 : (j : Int) < (sR.length : Int) := by omega
                have HJ := Lib.hid hj
                clear hj hst hSOR
                by_cases hx : numAt sR k ∈ sH
                · rw [decide_eq_true hx] at HHX HHY
                  clear hx
                  go_wp2_with fail
                  have w1_ := W1_.out
                  go_big_quiet ((first | (go_at_call_of 35 (Value.slice AD sD.length cD); refine Calls.quiet_of_same (HHX.out _)) | (go_at_call 35; refine Calls.quiet_of_same (HHY.out _))))
                  clear w1_
                  go_wp2_with fail
                  go_roundw
                  case rel => exact ⟨k + 1, by omega, by go_num, below_drewN HB6.out _⟩
                  case measure => simp [intOf]; omega
                · rw [decide_eq_false hx] at HHX HHY
                  clear hx
                  go_wp2_with fail
                  have w1_ := W1_.out
                  go_big_quiet ((first | (go_at_call_of 35 (Value.slice AD sD.length cD); refine Calls.quiet_of_same (HHX.out _)) | (go_at_call 35; refine Calls.quiet_of_same (HHY.out _))))
                  clear w1_
                  go_wp2_with fail
                  go_roundw
                  case rel => exact ⟨k + 1, by omega, by go_num, below_drewN HB6.out _⟩
                  case measure => simp [intOf]; omega
            · have i1 : ¬ ((k : Int) < (sR.length : Int)) := by omega
              have HSUB := Lib.hid (str_sub HSD.out HSR.out)
              have hb0 : Hid (Below w5.heap.size w5 wr) := HBQ.out
              have hb2 : Hid (Below w5.heap.size w5 wr.drew) := HBQ.out.drew
              clear HB HB6 HBQ HSD HSR HSH
              go_wp2_with fail
              go_region_held3 (fun W : World => W.cell? ⟨H, 0, none⟩ = some (.slice N_ x.m.nodes.length nc) ∧ W.cell? ⟨H, 1, none⟩ = some (.slice L_ x.m.lifts.length lc) ∧ W.cell? ⟨H, 2, none⟩ = some (.slice R_ x.m.runs.length rc) ∧ W.cell? ⟨H, 3, none⟩ = some (.slice B_ x.m.bases.length bc) ∧ W.cell? ⟨H, 4, none⟩ = some (.slice F_ x.lifts.length fc) ∧ W.cell? ⟨H, 5, none⟩ = some (.slice G_ x.runs.length gc))
                (first | exact HBY.out _ HB8.out | exact HBY.out _ hb0.out | exact HBY.out _ hb2.out)
                (first | (go_at_call 38; refine (within_any _ _ _ _ _ _ _ (HRD.out.below (by first | exact HB8.out | exact hb2.out | exact hb0.out)) (HRR.out.below (by first | exact HB8.out | exact hb2.out | exact hb0.out)) HSUB.out).mono ?_; rintro e w8 ⟨rfl, rfl⟩) | (go_at_call 24; refine (CQ.out _ (by first | exact HB8.out | exact hb2.out | exact hb0.out)).mono ?_; rintro e w8 ⟨Az, cz, rfl, hr8, hb8⟩; have HB8 := Lib.hid (show Below w5.heap.size w5 w8 from by first | exact below_go HB8.out hb8 | exact below_go hb2.out hb8 | exact below_go hb0.out hb8); have HRZ := Lib.hid hr8; clear hb8 hr8) | (go_at_call 14; refine (CG.out _ (by first | exact HB8.out | exact hb2.out | exact hb0.out)).mono ?_; rintro e w8 ⟨Az, cz, rfl, hr8, hb8⟩; have HB8 := Lib.hid (show Below w5.heap.size w5 w8 from by first | exact below_go HB8.out hb8 | exact below_go hb2.out hb8 | exact below_go hb0.out hb8); have HRZ := Lib.hid hr8; clear hb8 hr8) | (go_at_call 27; refine (CU.out _ (by first | exact HB8.out | exact hb2.out | exact hb0.out)).mono ?_; rintro e w8 ⟨Az, cz, rfl, hb8⟩; have HB8 := Lib.hid (show Below w5.heap.size w5 w8 from by first | exact below_go HB8.out hb8 | exact below_go hb2.out hb8 | exact below_go hb0.out hb8); clear hb8) | (go_at_call 23; refine (SM.out _ _ _ (by first | exact HB8.out | exact hb2.out | exact hb0.out) HRZ.out).mono ?_; rintro e w8 ⟨rfl, hb8⟩; clear HRZ; have HB8 := Lib.hid (show Below w5.heap.size w5 w8 from by first | exact below_go HB8.out hb8 | exact below_go hb2.out hb8 | exact below_go hb0.out hb8); clear hb8))
              all_goals
                go_wp2_with fail
                go_ret
                exact ⟨rfl, below_in HBE5.out HB8.out HBE5.out.size⟩
end Go.Proofs.Ytoeiongnjogpeaa
