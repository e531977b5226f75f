/- Proved here: the law WaysHome returns true for all arguments that read, and changes nothing that was there before. Written by gen_wlaw.py. -/
import Derived.Test.YtoeiongnjogpeaaHomeTh
namespace Go.Proofs.Ytoeiongnjogpeaa
open Go.RowKit
set_option maxRecDepth 100000 in
set_option maxHeartbeats 4000000 in
theorem waysHome_walk (V : OpenA) (x : OpenM) (_u0 : Unit) (q : Int) (w : World) (hx : RdO w V x) :
    Calls Try.prog 7 #[openV V x, .int .i64 q] w fun e w' => e = .returned (.bool true) ∧ Below w.heap.size w w' := by
  obtain ⟨W1, hW1⟩ : ∃ W1, W1 = w.alloc (.cells #[.slice V.V.N x.m.nodes.length V.V.n, .slice V.V.L x.m.lifts.length V.V.l, .slice V.V.R x.m.runs.length V.V.r, .slice V.V.B x.m.bases.length V.V.b, .slice V.lifts x.lifts.length V.lc, .slice V.runs x.runs.length V.rc] 52) := ⟨_, rfl⟩
  have hb1 : Below w.heap.size w W1 := by rw [hW1]; exact box_below _ _
  have hbox : openBox W1 w.heap.size V.V.N V.V.L V.V.R V.V.B V.lifts V.runs V.V.n V.V.l V.V.r V.V.b V.lc V.rc x := by rw [hW1]; exact openBox_new _ _ _ _ _ _ _ _ _ _ _ _ _ _
  have ha := walive_any W1
  have hsm := fun W (h : Below W1.heap.size W1 W) => small_any V x W ((hx.below hb1).below h)
  have HXX := Lib.hid (hx.below hb1)
  unfold openV at hsm
  obtain ⟨V_, hVV⟩ : ∃ V_, V_ = V := ⟨_, rfl⟩
  rw [← hVV] at HXX
  have HVV := Lib.hid hVV
  obtain ⟨⟨N_, L_, R_, B_, nc, lc, rc, bc⟩, F_, G_, fc, gc⟩ := V
  dsimp only at hbox hsm hW1
  have HA := Lib.hid ha
  have HSM := Lib.hid hsm
  have HBOX := Lib.hid (fun W (h : Below W1.heap.size W1 W) => hbox.below h)
  have HB1 := Lib.hid hb1
  clear hx hb1 hbox ha hsm hVV
  unfold openV
  dsimp only
  go_enter Try.func7, Try.ntmps7
  rw [hW1] at HA
  go_wp2_with fail
  refine HA.out.mono ?_
  rw [← hW1]
  rintro e w2 ⟨rfl, hb⟩
  have HB2 := Lib.hid hb
  obtain ⟨q0, q1, q2, q3, q4, q5⟩ := HBOX.out w2 HB2.out
  have HS2 := Lib.hid (HSM.out w2 HB2.out)
  clear hb HA HSM hW1
  go_wp2_with fail
  refine HS2.out.mono ?_
  rintro e w3 ⟨sb, rfl, hsb, hb⟩
  have HB3 := Lib.hid (below_go HB2.out hb)
  have HSB := Lib.hid hsb
  clear hb HS2 hsb q0 q1 q2 q3 q4 q5
  cases sb with
  | false =>
    go_wp2_with fail
    go_ret
    exact ⟨rfl, below_in HB1.out HB3.out HB1.out.size⟩
  | true =>
    obtain ⟨h100, h101, hok⟩ := HSB.out rfl
    have HOK := Lib.hid hok
    obtain ⟨H, hH⟩ : ∃ H, H = w.heap.size := ⟨_, rfl⟩
    have HBX := Lib.hid (fun W (h : Below w3.heap.size w3 W) => HBOX.out W (below_go HB3.out h))
    have HX3 := Lib.hid (HXX.out.below HB3.out)
    have HBE := Lib.hid (below_in HB1.out HB3.out HB1.out.size)
    rw [← hH] at HBX ⊢
    clear HSB hok hH HBOX HXX HB3 HB2 HB1
    have cs := wstr_any V_.V x.m HOK.out V_.lifts V_.runs V_.lc V_.rc x.lifts x.runs w3 HX3.out.m HX3.out.lifts HX3.out.runs
    rw [HVV.out] at cs
    unfold mapV at cs
    dsimp only at cs
    have CS := Lib.hid cs
    clear cs
    have cr := fun W (h : Below w3.heap.size w3 W) => wreach_any V_.V x.m HOK.out V_.lifts V_.runs V_.lc V_.rc x.lifts x.runs W (HX3.out.m.below h) (HX3.out.lifts.below h) (HX3.out.runs.below h)
    rw [HVV.out] at cr
    unfold mapV at cr
    dsimp only at cr
    have CR := Lib.hid cr
    clear cr
    obtain ⟨q0, q1, q2, q3, q4, q5⟩ := HBX.out w3 (Below.refl _ _)
    go_wp2_with fail
    refine CS.out.mono ?_
    rintro e w4 ⟨AD, cD, bad, rfl, hs4, hr4, hb4⟩
    have HB4 := Lib.hid hb4
    have HRD := Lib.hid hr4
    have HSD := Lib.hid hs4
    clear hb4 hr4 hs4 CS q0 q1 q2 q3 q4 q5
    obtain ⟨q0, q1, q2, q3, q4, q5⟩ := HBX.out w4 HB4.out
    have HC1 := Lib.hid (CR.out w4 HB4.out)
    go_wp2_with fail
    refine HC1.out.mono ?_
    rintro e w5 ⟨AR, cR, reach, rfl, hs5, hr5, hb5⟩
    have HB5 := Lib.hid (below_go HB4.out hb5)
    have HRR := Lib.hid hr5
    have HSR := Lib.hid hs5
    have HRD := Lib.hid (HRD.out.below hb5)
    clear hb5 hr5 hs5 CR q0 q1 q2 q3 q4 q5 HC1 HB4
    have HX5 := Lib.hid (HX3.out.below HB5.out)
    have HBY := Lib.hid (fun W (h : Below w5.heap.size w5 W) => HBX.out W (below_go HB5.out h))
    have HBE5 := Lib.hid (below_in HBE.out HB5.out HBE.out.size)
    have hmD := HRD.out.1
    have hmR := HRR.out.1
    clear HBX HBE HX3 HB5
    obtain ⟨few, hfew⟩ : ∃ few, few = minusL x.runs [q] := ⟨_, rfl⟩
    have cw := fun u W (h : Below w5.heap.size w5 W) => wway_ex V_.V x.m HOK.out V_.runs V_.rc x.runs u W (HX5.out.m.below h) (HX5.out.runs.below h)
    rw [HVV.out] at cw
    unfold mapV at cw
    dsimp only at cw
    have CW := Lib.hid cw
    clear cw
    have cn := fun W (h : Below w5.heap.size w5 W) => wneeds_any V_.V x.m HOK.out V_.lifts V_.runs V_.lc V_.rc x.lifts x.runs q W (HX5.out.m.below h) (HX5.out.lifts.below h) (HX5.out.runs.below h) (by omega)
    rw [HVV.out] at cn
    unfold mapV at cn
    dsimp only at cn
    have CN := Lib.hid cn
    clear cn
    have co := fun W (h : Below w5.heap.size w5 W) => lwithout_any V_.runs V_.rc x.runs q W (HX5.out.runs.below h) (by omega)
    rw [HVV.out] at co
    dsimp only at co
    rw [← hfew] at co
    have CO := Lib.hid co
    clear co
    have ct := fun A c W (h : Below w5.heap.size w5 W) (ha : RdI W A few) => wstr_any V_.V x.m HOK.out V_.lifts A V_.lc c x.lifts few W (HX5.out.m.below h) (HX5.out.lifts.below h) ha
    rw [HVV.out] at ct
    unfold mapV at ct
    dsimp only at ct
    have CT := Lib.hid ct
    clear ct
    have cl := fun P pc p u W (h : Below w5.heap.size w5 W) (hp : RdI W P p) (hlen : p.length ≤ 1000) => leads_any V_ x HOK.out P pc p u W (HX5.out.below h) hp hlen
    rw [HVV.out] at cl
    unfold openV at cl
    dsimp only at cl
    have CL := Lib.hid cl
    have HFEW := Lib.hid hfew
    clear HX5 HVV cl hfew
    go_wp2_with fail
    go_loopw [7] (fun iv wr => ∃ k : Nat, k ≤ reach.length ∧ iv = .int .i64 k ∧ Hid (Below w5.heap.size w5 wr)) (fun iv _ => reach.length - (intOf iv).toNat)
    case atStart => exact ⟨0, Nat.zero_le _, rfl, Below.refl _ _⟩
    case round =>
      obtain ⟨k, hk, rfl, HB⟩ := hrel
      by_cases hlt : k < reach.length
      · have i1 : ((k : Int) < (reach.length : Int)) := by omega
        clear CN CO CT HFEW
        obtain ⟨a, rfl⟩ := HRR.out.addr hlt
        obtain ⟨u, hu⟩ : ∃ u, u = numAt reach k := ⟨_, rfl⟩
        have HCK := Lib.hid (fun W (h : Below w5.heap.size w5 W) => (⟨(HBY.out W h).1, (HBY.out W h).2.1, (HBY.out W h).2.2.1, (HBY.out W h).2.2.2.1, (HBY.out W h).2.2.2.2.1, (HBY.out W h).2.2.2.2.2, by rw [hu]; exact HRR.out.at_ h hlt⟩ : W.cell? ⟨H, 0, none⟩ = some (.slice N_ x.m.nodes.length nc) ∧ W.cell? ⟨H, 1, none⟩ = some (.slice L_ x.m.lifts.length lc) ∧ W.cell? ⟨H, 2, none⟩ = some (.slice R_ x.m.runs.length rc) ∧ W.cell? ⟨H, 3, none⟩ = some (.slice B_ x.m.bases.length bc) ∧ W.cell? ⟨H, 4, none⟩ = some (.slice F_ x.lifts.length fc) ∧ W.cell? ⟨H, 5, none⟩ = some (.slice G_ x.runs.length gc) ∧ W.cell? (a.add k) = some (.int .i64 u)))
        have HST := Lib.hid (fun st => str_way HOK.out HSD.out HSR.out (by rw [hu]; exact numAt_mem hlt : u ∈ reach) (st := st))
        have HH := Lib.hid (fun W (h : Below w5.heap.size w5 W) => has_any AD cD bad u W (HRD.out.below h))
        have hb0 : Hid (Below w5.heap.size w5 wr) := HB.out
        have hb2 : Hid (Below w5.heap.size w5 wr.drew) := HB.out.drew
        clear hu HB HSD HSR
        go_wp2_with fail
        go_region_held3 (fun W : World => W.cell? ⟨H, 0, none⟩ = some (.slice N_ x.m.nodes.length nc) ∧ W.cell? ⟨H, 1, none⟩ = some (.slice L_ x.m.lifts.length lc) ∧ W.cell? ⟨H, 2, none⟩ = some (.slice R_ x.m.runs.length rc) ∧ W.cell? ⟨H, 3, none⟩ = some (.slice B_ x.m.bases.length bc) ∧ W.cell? ⟨H, 4, none⟩ = some (.slice F_ x.lifts.length fc) ∧ W.cell? ⟨H, 5, none⟩ = some (.slice G_ x.runs.length gc) ∧ W.cell? (a.add k) = some (.int .i64 u))
          (first | exact HCK.out _ HB8.out | exact HCK.out _ hb0.out | exact HCK.out _ hb2.out)
          (first | (go_at_call 29; refine (CW.out u _ (by first | exact HB8.out | exact hb2.out | exact hb0.out)).mono ?_; rintro e w8 ⟨A8, c8, ids, n, okw, rfl, hs8, hr8, hb8⟩; have HB8 := Lib.hid (show Below w5.heap.size w5 w8 from by first | exact below_go HB8.out hb8 | exact below_go hb2.out hb8 | exact below_go hb0.out hb8); have HR8 := Lib.hid hr8; have HS8 := Lib.hid hs8; clear hb8 hr8 hs8))
        all_goals
          obtain ⟨q0, q1, q2, q3, q4, q5, q6⟩ := HCK.out _ HB8.out
          have hid : ids.length ≤ 200 := WayS.len HOK.out HS8.out
          have hqm := HST.out (ids, n, okw) HS8.out
          have HC := HH.out _ HB8.out
          rw [hqm] at HC
          dsimp only at HC
          have HCH := Lib.hid HC
          have HLW := Lib.hid (fun h => lead_way HOK.out HS8.out h)
          dsimp only at HLW
          have HCL := Lib.hid (fun W (h : Below w5.heap.size w5 W) (hp : RdI W A8 ids) => CL.out A8 c8 ids u W h hp (by omega))
          obtain ⟨kk, hkk⟩ : ∃ kk, kk = (leadR x ids u).1 := ⟨_, rfl⟩
          obtain ⟨hm, hhm⟩ : ∃ hm, hm = (leadR x ids u).2 := ⟨_, rfl⟩
          have HLR := Lib.hid (show leadR x ids u = (kk, hm) by rw [hkk, hhm])
          rw [← hkk, ← hhm] at HCL
          clear hqm HC HST HH hkk hhm hb0 hb2 CW HS8
          have hb0 : Hid (Below w5.heap.size w5 w8) := HB8.out
          have hb2 : Hid (Below w5.heap.size w5 w8.drew) := HB8.out.drew
          have hr0 : Hid (RdI w8 A8 ids) := HR8.out
          have hr2 : Hid (RdI w8.drew A8 ids) := HR8.out.below (Below.refl _ _).drew
          clear HB8 HR8
          cases okw with
          | false =>
            clear HLW HLR
            go_wp2_with fail
            refine HCH.out.mono ?_
            rintro e w9 ⟨rfl, rfl⟩
            clear HCH q0 q1 q2 q3 q4 q5 q6
            go_wp2_with fail
            go_region_held3 (fun W : World => W.cell? ⟨H, 0, none⟩ = some (.slice N_ x.m.nodes.length nc) ∧ W.cell? ⟨H, 1, none⟩ = some (.slice L_ x.m.lifts.length lc) ∧ W.cell? ⟨H, 2, none⟩ = some (.slice R_ x.m.runs.length rc) ∧ W.cell? ⟨H, 3, none⟩ = some (.slice B_ x.m.bases.length bc) ∧ W.cell? ⟨H, 4, none⟩ = some (.slice F_ x.lifts.length fc) ∧ W.cell? ⟨H, 5, none⟩ = some (.slice G_ x.runs.length gc) ∧ W.cell? (a.add k) = some (.int .i64 u))
              (first | exact HCK.out _ HB8.out | exact HCK.out _ hb0.out | exact HCK.out _ hb2.out)
              (first | (go_at_call 36; refine (HCL.out _ (by first | exact HB8.out | exact hb2.out | exact hb0.out) (by first | exact hr0.out | exact hr2.out)).mono ?_; rintro e w8 ⟨rfl, hb8⟩; have HB8 := Lib.hid (show Below w5.heap.size w5 w8 from by first | exact below_go HB8.out hb8 | exact below_go hb2.out hb8 | exact below_go hb0.out hb8); clear hb8))
            all_goals
              go_wp2_with fail
              go_roundw
              case rel => exact ⟨k + 1, by omega, by go_num, HB8.out⟩
              case measure => simp [intOf]; omega
          | true =>
            obtain ⟨rfl, rfl⟩ : kk = n ∧ hm = true := by
              have h := HLW.out rfl
              rw [HLR.out] at h
              exact ⟨congrArg Prod.fst h, congrArg Prod.snd h⟩
            have t1 : (kk != kk) = false := by simp
            clear HLW HLR
            go_wp2_with fail
            refine HCH.out.mono ?_
            rintro e w9 ⟨rfl, rfl⟩
            clear HCH q0 q1 q2 q3 q4 q5 q6
            go_wp2_with fail
            go_region_held3 (fun W : World => W.cell? ⟨H, 0, none⟩ = some (.slice N_ x.m.nodes.length nc) ∧ W.cell? ⟨H, 1, none⟩ = some (.slice L_ x.m.lifts.length lc) ∧ W.cell? ⟨H, 2, none⟩ = some (.slice R_ x.m.runs.length rc) ∧ W.cell? ⟨H, 3, none⟩ = some (.slice B_ x.m.bases.length bc) ∧ W.cell? ⟨H, 4, none⟩ = some (.slice F_ x.lifts.length fc) ∧ W.cell? ⟨H, 5, none⟩ = some (.slice G_ x.runs.length gc) ∧ W.cell? (a.add k) = some (.int .i64 u))
              (first | exact HCK.out _ HB8.out | exact HCK.out _ hb0.out | exact HCK.out _ hb2.out)
              (first | (go_at_call 36; refine (HCL.out _ (by first | exact HB8.out | exact hb2.out | exact hb0.out) (by first | exact hr0.out | exact hr2.out)).mono ?_; rintro e w8 ⟨rfl, hb8⟩; have HB8 := Lib.hid (show Below w5.heap.size w5 w8 from by first | exact below_go HB8.out hb8 | exact below_go hb2.out hb8 | exact below_go hb0.out hb8); clear hb8))
            all_goals
              go_wp2_with fail
              go_roundw
              case rel => exact ⟨k + 1, by omega, by go_num, HB8.out⟩
              case measure => simp [intOf]; omega
      · have i1 : ¬ ((k : Int) < (reach.length : Int)) := by omega
        clear CW CL HSR
        have HCN := Lib.hid (CN.out _ HB.out)
        obtain ⟨q0, q1, q2, q3, q4, q5⟩ := HBY.out _ HB.out
        go_wp2_with fail
        refine HCN.out.mono ?_
        rintro e w6 ⟨A6, c6, zs, rfl, hs6, hr6, hb6⟩
        have HB6 := Lib.hid (below_go HB.out hb6)
        have hmz := hr6.1
        have HSZ := Lib.hid hs6
        clear hb6 hr6 hs6 HCN q0 q1 q2 q3 q4 q5 HB CN
        by_cases hz : zs = []
        · have i2 : ¬ (0 < zs.length) := by rw [hz]; simp
          have i3 : ¬ ((0 : Int) < (zs.length : Int)) := by omega
          have HND := Lib.hid (fun now h => needs_none (now := now) HSZ.out hz HSD.out (by rw [← HFEW.out]; exact h))
          have hb0 : Hid (Below w5.heap.size w5 w6) := HB6.out
          have hb2 : Hid (Below w5.heap.size w5 w6.drew) := HB6.out.drew
          clear hz HSZ HFEW HB6
          go_wp2_with fail
          go_region_held3 (fun W : World => W.cell? ⟨H, 0, none⟩ = some (.slice N_ x.m.nodes.length nc) ∧ W.cell? ⟨H, 1, none⟩ = some (.slice L_ x.m.lifts.length lc) ∧ W.cell? ⟨H, 2, none⟩ = some (.slice R_ x.m.runs.length rc) ∧ W.cell? ⟨H, 3, none⟩ = some (.slice B_ x.m.bases.length bc) ∧ W.cell? ⟨H, 4, none⟩ = some (.slice F_ x.lifts.length fc) ∧ W.cell? ⟨H, 5, none⟩ = some (.slice G_ x.runs.length gc))
            (first | exact HBY.out _ HB8.out | exact HBY.out _ hb0.out | exact HBY.out _ hb2.out)
            (first | (go_at_call 37; refine (CO.out _ (by first | exact HB8.out | exact hb2.out | exact hb0.out)).mono ?_; rintro e w8 ⟨A9, c9, rfl, hr8, hb8⟩; have HB8 := Lib.hid (show Below w5.heap.size w5 w8 from by first | exact below_go HB8.out hb8 | exact below_go hb2.out hb8 | exact below_go hb0.out hb8); have HR9 := Lib.hid hr8; clear hb8 hr8) | (go_at_call 27; refine (CT.out _ _ _ (by first | exact HB8.out | exact hb2.out | exact hb0.out) HR9.out).mono ?_; rintro e w8 ⟨A7, c7, now, rfl, hs8, hr8, hb8⟩; have HB8 := Lib.hid (show Below w5.heap.size w5 w8 from by first | exact below_go HB8.out hb8 | exact below_go hb2.out hb8 | exact below_go hb0.out hb8); have HR7 := Lib.hid hr8; have HS7 := Lib.hid hs8; clear hb8 hr8 hs8 HR9))
          all_goals
            have HSUB := Lib.hid (HND.out _ HS7.out)
            have HH := Lib.hid (fun x => has_any AD cD bad x _ (HRD.out.below HB8.out))
            have hm7 := HR7.out.1
            clear HND HS7 CO CT hb0 hb2 hlt i1 hk
            go_wp2_with fail
            go_loop [14] (fun i => ∃ k : Nat, k ≤ now.length ∧ i = .int .i64 k) (fun i => now.length - (intOf i).toNat)
            case atStart => exact ⟨0, Nat.zero_le _, rfl⟩
            case round =>
              obtain ⟨j, hj, rfl⟩ := hrel
              by_cases hlt : j < now.length
              · have i1 : ((j : Int) < (now.length : Int)) := by omega
                obtain ⟨ad, rfl⟩ := HR7.out.addr hlt
                have x0 := HR7.out.at_ (Below.refl _ _) hlt
                have hc := HH.out (numAt now j)
                rw [decide_eq_true (HSUB.out _ (numAt_mem hlt))] at hc
                have HC := Lib.hid hc
                clear hc
                go_wp2_with fail
                refine HC.out.mono ?_
                rintro e w1 ⟨rfl, rfl⟩
                go_wp2_with fail
                go_round
                case rel => exact ⟨j + 1, by omega, by go_num⟩
                case measure => simp [intOf]; omega
              · have i1 : ¬ ((j : Int) < (now.length : Int)) := by omega
                go_wp2_with fail
                go_ret
                exact ⟨rfl, below_in HBE5.out HB8.out HBE5.out.size⟩
        · have i2 : 0 < zs.length := List.length_pos_iff.2 hz
          have i3 : (0 : Int) < (zs.length : Int) := by omega
          clear HSZ HFEW CO CT
          go_wp2_with fail
          go_ret
          exact ⟨rfl, below_in HBE5.out HB6.out HBE5.out.size⟩
end Go.Proofs.Ytoeiongnjogpeaa
