/- Proved here: the law WaysMore returns true for all arguments that read, and changes nothing that was there before. Written by gen_wlaw.py. -/
import Derived.Test.YtoeiongnjogpeaaWLead
namespace Go.Proofs.Ytoeiongnjogpeaa
open Go.RowKit
set_option maxRecDepth 100000 in
set_option maxHeartbeats 4000000 in
theorem waysMore_walk (V : OpenA) (x : OpenM) (_u0 : Unit) (a b : Int) (_u1 : Unit) (u : Int) (w : World) (hx : RdO w V x) (_hpq : (-9223372036854775808 ≤ a ∧ a ≤ 9223372036854775807) ∧ (-9223372036854775808 ≤ b ∧ b ≤ 9223372036854775807)) :
    Calls Try.prog 8 #[openV V x, .agg #[.int .i64 a, .int .i64 b], .int .i64 u] w fun e w' => e = .returned (.bool true) ∧ Below w.heap.size w w' := by
  obtain ⟨W1, hW1⟩ : ∃ W1, W1 = (w.alloc (.cells #[.slice V.V.N x.m.nodes.length V.V.n, .slice V.V.L x.m.lifts.length V.V.l, .slice V.V.R x.m.runs.length V.V.r, .slice V.V.B x.m.bases.length V.V.b, .slice V.lifts x.lifts.length V.lc, .slice V.runs x.runs.length V.rc] 52)).alloc (.cells #[.int .i64 a, .int .i64 b] 65) := ⟨_, rfl⟩
  have hb1 : Below w.heap.size w W1 := by rw [hW1]; exact below_go (box_below _ _) (box_below _ _)
  have hbox : openBox W1 w.heap.size V.V.N V.V.L V.V.R V.V.B V.lifts V.runs V.V.n V.V.l V.V.r V.V.b V.lc V.rc x := by rw [hW1]; exact (openBox_new _ _ _ _ _ _ _ _ _ _ _ _ _ _).below (box_below _ _)
  have ha := walive_any W1
  have hsm := fun W (h : Below W1.heap.size W1 W) => small_any V x W ((hx.below hb1).below h)
  have HXX := Lib.hid (hx.below hb1)
  have hpb : W1.cell? ⟨w.heap.size + 1, 0, none⟩ = some (.int .i64 a) ∧ W1.cell? ⟨w.heap.size + 1, 1, none⟩ = some (.int .i64 b) := by
    have e1 : (w.alloc (.cells #[.slice V.V.N x.m.nodes.length V.V.n, .slice V.V.L x.m.lifts.length V.V.l, .slice V.V.R x.m.runs.length V.V.r, .slice V.V.B x.m.bases.length V.V.b, .slice V.lifts x.lifts.length V.lc, .slice V.runs x.runs.length V.rc] 52)).heap.size = w.heap.size + 1 := by simp
    have h0 := box_cell (w.alloc (.cells #[.slice V.V.N x.m.nodes.length V.V.n, .slice V.V.L x.m.lifts.length V.V.l, .slice V.V.R x.m.runs.length V.V.r, .slice V.V.B x.m.bases.length V.V.b, .slice V.lifts x.lifts.length V.lc, .slice V.runs x.runs.length V.rc] 52)) #[.int .i64 a, .int .i64 b] 65 0 _ rfl
    have h1 := box_cell (w.alloc (.cells #[.slice V.V.N x.m.nodes.length V.V.n, .slice V.V.L x.m.lifts.length V.V.l, .slice V.V.R x.m.runs.length V.V.r, .slice V.V.B x.m.bases.length V.V.b, .slice V.lifts x.lifts.length V.lc, .slice V.runs x.runs.length V.rc] 52)) #[.int .i64 a, .int .i64 b] 65 1 _ rfl
    rw [e1] at h0 h1
    rw [hW1]
    exact ⟨h0, h1⟩
  have HPB := Lib.hid hpb
  clear hpb
  unfold openV at hsm
  obtain ⟨V_, hVV⟩ : ∃ V_, V_ = V := ⟨_, rfl⟩
  rw [← hVV] at HXX
  have HVV := Lib.hid hVV
  obtain ⟨⟨N_, L_, R_, B_, nc, lc, rc, bc⟩, F_, G_, fc, gc⟩ := V
  dsimp only at hbox hsm hW1
  have HA := Lib.hid ha
  have HSM := Lib.hid hsm
  have HBOX := Lib.hid (fun W (h : Below W1.heap.size W1 W) => hbox.below h)
  have HB1 := Lib.hid hb1
  clear hx hb1 hbox ha hsm hVV
  unfold openV
  dsimp only
  go_enter Try.func8, Try.ntmps8
  rw [hW1] at HA
  go_wp2_with fail
  refine HA.out.mono ?_
  rw [← hW1]
  rintro e w2 ⟨rfl, hb⟩
  have HB2 := Lib.hid hb
  obtain ⟨q0, q1, q2, q3, q4, q5⟩ := HBOX.out w2 HB2.out
  have HS2 := Lib.hid (HSM.out w2 HB2.out)
  clear hb HA HSM hW1
  go_wp2_with fail
  refine HS2.out.mono ?_
  rintro e w3 ⟨sb, rfl, hsb, hb⟩
  have HB3 := Lib.hid (below_go HB2.out hb)
  have HSB := Lib.hid hsb
  clear hb HS2 hsb q0 q1 q2 q3 q4 q5
  cases sb with
  | false =>
    go_wp2_with fail
    go_ret
    exact ⟨rfl, below_in HB1.out HB3.out HB1.out.size⟩
  | true =>
    obtain ⟨h100, h101, hok⟩ := HSB.out rfl
    have HOK := Lib.hid hok
    obtain ⟨H, hH⟩ : ∃ H, H = w.heap.size := ⟨_, rfl⟩
    have HBX := Lib.hid (fun W (h : Below w3.heap.size w3 W) => HBOX.out W (below_go HB3.out h))
    have HX3 := Lib.hid (HXX.out.below HB3.out)
    have HBE := Lib.hid (below_in HB1.out HB3.out HB1.out.size)
    rw [← hH] at HBX ⊢
    rw [← hH] at HPB
    have HPB3 := Lib.hid (fun W (h : Below w3.heap.size w3 W) => (⟨((below_go HB3.out h).cell (World.block_lt_of_cell? _ _ HPB.out.1)).trans HPB.out.1, ((below_go HB3.out h).cell (World.block_lt_of_cell? _ _ HPB.out.2)).trans HPB.out.2⟩ : W.cell? ⟨H + 1, 0, none⟩ = some (.int .i64 a) ∧ W.cell? ⟨H + 1, 1, none⟩ = some (.int .i64 b)))
    clear HPB
    clear HSB hok hH HBOX HXX HB3 HB2 HB1
    have hX3 := HX3.out
    rw [HVV.out] at hX3
    have hF : RdI w3 F_ x.lifts := hX3.lifts
    have hG : RdI w3 G_ x.runs := hX3.runs
    have HF := Lib.hid hF
    have HG := Lib.hid hG
    clear hX3 hF hG
    obtain ⟨q0, q1, q2, q3, q4, q5⟩ := HBX.out w3 (Below.refl _ _)
    go_wp2_with (at_builtin; refine OwnS.wp_appendAll rfl _ _ 25 rfl 3 (.int .i64 0) 1 8 Try.underlying25 (by kernel_rfl) rfl (by omega) (by omega) w3.heap.size 0 x.lifts.length (.slice none 0 0) [] rfl (OwnS.nil _ _ _ _) F_ fc (x.lifts.map (Value.int .i64)) rfl (by simp) (fun hpos => by obtain ⟨ad, rfl⟩ := HF.out.addr hpos; exact ⟨ad, rfl, fun j v hj => by
      have hjl : j < x.lifts.length := by have := (List.getElem?_eq_some_iff.1 hj).1; simpa using this
      rw [List.getElem?_map, numAt_eq hjl] at hj
      simp at hj
      subst hj
      exact HF.out.at_ (Below.refl _ _) hjl⟩) (fun v hv => by obtain ⟨z, _, rfl⟩ := List.mem_map.1 hv; rfl) (by omega) (Nat.le_refl _) ?_)
    intro v4 w4 ho4 hg4 _
    have HO4 := Lib.hid (show OwnI w4 w3.heap.size v4 x.lifts by
      show OwnS _ _ _ _ _ _ _
      simpa using ho4)
    have HB4 := Lib.hid ((Below.refl w3.heap.size w3).grown hg4 (Nat.le_refl _) (fun k hk => by cases hk))
    clear ho4 hg4 q0 q1 q2 q3 q4 q5
    obtain ⟨A4, c4, rfl⟩ := HO4.out.slice
    obtain ⟨z0, z1⟩ := HPB3.out w4 HB4.out
    go_wp2_with (at_builtin; refine wp_appI rfl _ _ rfl w3 w4 (.slice A4 x.lifts.length c4) x.lifts a rfl rfl HO4.out (by omega) HB4.out ?_)
    intro A5 c5 w5 HO5 HB5
    clear z0 z1 HO4 HB4
    obtain ⟨L2, hL2⟩ : ∃ L2, L2 = x.lifts ++ [a] := ⟨_, rfl⟩
    have e5 : x.lifts.length + 1 = L2.length := by rw [hL2]; simp
    rw [← hL2, e5] at HO5
    rw [e5]
    have HL2 := Lib.hid (show ∀ z ∈ x.lifts, z ∈ L2 by rw [hL2]; exact fun z hz => List.mem_append_left _ hz)
    clear hL2 e5
    obtain ⟨z0, z1⟩ := HPB3.out w5 HB5.out
    go_wp2_with (at_builtin; refine wp_appI rfl _ _ rfl w5 w5 (.slice none 0 0) [] b rfl rfl (OwnI.nil _ _) (by simp) (Below.refl _ _) ?_)
    intro A6 c6 w6 HO6 HB6
    have HO5' := Lib.hid HO5.out
    have HR5 := Lib.hid ((OwnI.rdI HO5.out).below HB6.out)
    have HB36 := Lib.hid (below_go HB5.out HB6.out)
    obtain ⟨q0, q1, q2, q3, q4, q5⟩ := HBX.out w6 HB36.out
    have HG6 := Lib.hid (HG.out.below HB36.out)
    have HO6' := Lib.hid (show OwnS 3 1 w6 w5.heap.size (.slice A6 (0 + 1) c6) (0 + 1) [.int .i64 b] from HO6.out)
    clear z0 z1 HO5 HO6 HF
    go_wp2_with (at_builtin; refine OwnS.wp_appendAll rfl _ _ 25 rfl 3 (.int .i64 0) 1 8 Try.underlying25 (by kernel_rfl) rfl (by omega) (by omega) w5.heap.size (0 + 1) x.runs.length (.slice A6 (0 + 1) c6) [.int .i64 b] rfl HO6'.out G_ gc (x.runs.map (Value.int .i64)) rfl (by simp) (fun hpos => by obtain ⟨ad, rfl⟩ := HG6.out.addr hpos; exact ⟨ad, rfl, fun j v hj => by
      have hjl : j < x.runs.length := by have := (List.getElem?_eq_some_iff.1 hj).1; simpa using this
      rw [List.getElem?_map, numAt_eq hjl] at hj
      simp at hj
      subst hj
      exact HG6.out.at_ (Below.refl _ _) hjl⟩) (fun v hv => by obtain ⟨z, _, rfl⟩ := List.mem_map.1 hv; rfl) (by omega) HB6.out.size ?_)
    intro v7 w7 ho7 hg7 _
    obtain ⟨A7, c7, rfl, _, _⟩ := ho7.slice
    obtain ⟨R2, hR2⟩ : ∃ R2, R2 = b :: x.runs := ⟨_, rfl⟩
    have e7 : 1 + x.runs.length = R2.length := by rw [hR2]; simp; omega
    have hr7 : RdI w7 A7 R2 := by
      have h := ho7
      have e : (Value.int .i64 b :: x.runs.map (Value.int .i64)) = R2.map (Value.int .i64) := by rw [hR2]; rfl
      first | rw [e, e7] at h | (simp only [Nat.zero_add, List.cons_append, List.nil_append] at h; rw [e, e7] at h)
      exact OwnS.rdI (B := w5.heap.size) (c := c7) h
    rw [e7]
    have HR7 := Lib.hid hr7
    have HB57 := Lib.hid (HB6.out.grown hg7 HB6.out.size (fun k hk => (OwnS.block HO6'.out hk).1))
    have HRM2 := Lib.hid (show ∀ z ∈ x.runs, z ∈ R2 by rw [hR2]; exact fun z hz => List.mem_cons_of_mem _ hz)
    have HBB := Lib.hid (below_go HB5.out HB57.out)
    have HR57 := Lib.hid ((OwnI.rdI HO5'.out).below HB57.out)
    have HBY := Lib.hid (fun W (h : Below w7.heap.size w7 W) => HBX.out W (below_go HBB.out h))
    have HX7 := Lib.hid (HX3.out.below HBB.out)
    have HBE7 := Lib.hid (below_in HBE.out HBB.out HBE.out.size)
    clear ho7 hg7 hr7 e7 hR2 HB57 HO6' HR5 HO5' HBX HX3 HBE HB36 HG6 HG HB5 HB6 HPB3 q0 q1 q2 q3 q4 q5
    have cr := fun W (h : Below w7.heap.size w7 W) => wreach_any V_.V x.m HOK.out V_.lifts V_.runs V_.lc V_.rc x.lifts x.runs W (HX7.out.m.below h) (HX7.out.lifts.below h) (HX7.out.runs.below h)
    rw [HVV.out] at cr
    unfold mapV at cr
    dsimp only at cr
    have CR := Lib.hid cr
    clear cr
    have cq := fun W (h : Below w7.heap.size w7 W) => wreach_any V_.V x.m HOK.out A5 A7 c5 c7 L2 R2 W (HX7.out.m.below h) (HR57.out.below h) (HR7.out.below h)
    rw [HVV.out] at cq
    unfold mapV at cq
    dsimp only at cq
    have CQ := Lib.hid cq
    clear cq
    have ch := fun W (h : Below w7.heap.size w7 W) => whome_any V_.V x.m HOK.out V_.runs V_.rc x.runs W (HX7.out.m.below h) (HX7.out.runs.below h)
    rw [HVV.out] at ch
    unfold mapV at ch
    dsimp only at ch
    have CH := Lib.hid ch
    clear ch
    have cg := fun W (h : Below w7.heap.size w7 W) => whome_any V_.V x.m HOK.out A7 c7 R2 W (HX7.out.m.below h) (HR7.out.below h)
    rw [HVV.out] at cg
    unfold mapV at cg
    dsimp only at cg
    have CG := Lib.hid cg
    clear cg
    have cw := fun W (h : Below w7.heap.size w7 W) => wway_any V_.V x.m HOK.out V_.runs V_.rc x.runs u W (HX7.out.m.below h) (HX7.out.runs.below h)
    rw [HVV.out] at cw
    unfold mapV at cw
    dsimp only at cw
    have CW := Lib.hid cw
    clear cw
    have cv := fun W (h : Below w7.heap.size w7 W) => wway_any V_.V x.m HOK.out A7 c7 R2 u W (HX7.out.m.below h) (HR7.out.below h)
    rw [HVV.out] at cv
    unfold mapV at cv
    dsimp only at cv
    have CV := Lib.hid cv
    clear cv
    clear HX7 HVV HR57 HR7
    have hb0 : Hid (Below w7.heap.size w7 w7) := Below.refl _ _
    have hb2 : Hid (Below w7.heap.size w7 w7.drew) := (Below.refl _ _).drew
    go_wp2_with fail
    go_region_held3 (fun W : World => W.cell? ⟨H, 0, none⟩ = some (.slice N_ x.m.nodes.length nc) ∧ W.cell? ⟨H, 1, none⟩ = some (.slice L_ x.m.lifts.length lc) ∧ W.cell? ⟨H, 2, none⟩ = some (.slice R_ x.m.runs.length rc) ∧ W.cell? ⟨H, 3, none⟩ = some (.slice B_ x.m.bases.length bc) ∧ W.cell? ⟨H, 4, none⟩ = some (.slice F_ x.lifts.length fc) ∧ W.cell? ⟨H, 5, none⟩ = some (.slice G_ x.runs.length gc))
      (first | exact HBY.out _ HB8.out | exact HBY.out _ hb0.out | exact HBY.out _ hb2.out)
      (first | (go_at_call_of 24 (Value.slice F_ x.lifts.length fc); refine (CR.out _ (by first | exact HB8.out | exact hb2.out | exact hb0.out)).mono ?_; rintro e w8 ⟨Aa, ca, sa, rfl, hs8, hr8, hb8⟩; (try have HRb := Lib.hid (HRb.out.below hb8)); have HB8 := Lib.hid (show Below w7.heap.size w7 w8 from by first | exact below_go HB8.out hb8 | exact below_go hb2.out hb8 | exact below_go hb0.out hb8); have HRa := Lib.hid hr8; have HSa := Lib.hid hs8; clear hb8 hr8 hs8) | (go_at_call 24; refine (CQ.out _ (by first | exact HB8.out | exact hb2.out | exact hb0.out)).mono ?_; rintro e w8 ⟨Ab, cb, sb, rfl, hs8, hr8, hb8⟩; (try have HRa := Lib.hid (HRa.out.below hb8)); have HB8 := Lib.hid (show Below w7.heap.size w7 w8 from by first | exact below_go HB8.out hb8 | exact below_go hb2.out hb8 | exact below_go hb0.out hb8); have HRb := Lib.hid hr8; have HSb := Lib.hid hs8; clear hb8 hr8 hs8) | (go_at_call_of 14 (Value.slice G_ x.runs.length gc); refine (CH.out _ (by first | exact HB8.out | exact hb2.out | exact hb0.out)).mono ?_; rintro e w8 ⟨Ac, cc, sc, rfl, hs8, hr8, hb8⟩; (try have HRd := Lib.hid (HRd.out.below hb8)); have HB8 := Lib.hid (show Below w7.heap.size w7 w8 from by first | exact below_go HB8.out hb8 | exact below_go hb2.out hb8 | exact below_go hb0.out hb8); have HRc := Lib.hid hr8; have HSc := Lib.hid hs8; clear hb8 hr8 hs8) | (go_at_call 14; refine (CG.out _ (by first | exact HB8.out | exact hb2.out | exact hb0.out)).mono ?_; rintro e w8 ⟨Ad, cd, sd, rfl, hs8, hr8, hb8⟩; (try have HRc := Lib.hid (HRc.out.below hb8)); have HB8 := Lib.hid (show Below w7.heap.size w7 w8 from by first | exact below_go HB8.out hb8 | exact below_go hb2.out hb8 | exact below_go hb0.out hb8); have HRd := Lib.hid hr8; have HSd := Lib.hid hs8; clear hb8 hr8 hs8) | (go_at_call 38; first | (refine (within_any _ _ _ _ _ _ _ HRa.out HRb.out (Reached.mono HL2.out HRM2.out HSa.out HSb.out)).mono ?_; rintro e w8 ⟨rfl, rfl⟩; clear HRa HRb HSa HSb) | (refine (within_any _ _ _ _ _ _ _ HRc.out HRd.out (HomeS.mono HRM2.out HSc.out HSd.out)).mono ?_; rintro e w8 ⟨rfl, rfl⟩; clear HRc HRd HSc HSd)))
    all_goals
      clear CR CQ CH CG
      have HC1 := Lib.hid (CW.out _ HB8.out)
      obtain ⟨q0, q1, q2, q3, q4, q5⟩ := HBY.out _ HB8.out
      go_wp2_with fail
      refine HC1.out.mono ?_
      rintro e w4 ⟨Ax, cx, ⟨ids, n, ok⟩, rfl, hs4, hr4, hb4⟩
      have HB9 := Lib.hid (below_go HB8.out hb4)
      have HS4 := Lib.hid hs4
      clear hb4 hr4 hs4 HC1 q0 q1 q2 q3 q4 q5
      have HC1 := Lib.hid (CV.out _ HB9.out)
      obtain ⟨q0, q1, q2, q3, q4, q5⟩ := HBY.out _ HB9.out
      dsimp only
      go_wp2_with fail
      refine HC1.out.mono ?_
      rintro e w5 ⟨Ay, cy, ⟨idz, k, ok2⟩, rfl, hs5, hr5, hb5⟩
      have HBA := Lib.hid (below_go HB9.out hb5)
      have HLM := Lib.hid (way_more HOK.out HRM2.out HS4.out hs5)
      clear hb5 hr5 hs5 HC1 q0 q1 q2 q3 q4 q5 HS4
      dsimp only
      cases ok with
      | false =>
        go_wp2_with fail
        go_ret
        exact ⟨rfl, below_in HBE7.out HBA.out HBE7.out.size⟩
      | true =>
        obtain ⟨h1, h2⟩ := HLM.out rfl
        dsimp only at h1 h2
        subst h1
        go_wp2_with fail
        go_ret
        exact ⟨rfl, below_in HBE7.out HBA.out HBE7.out.size⟩
end Go.Proofs.Ytoeiongnjogpeaa
