/- Proved here: the law WaysShortest returns true for all arguments that read, and changes nothing that was there before. Written by gen_wlaw.py. -/
import Derived.Test.YtoeiongnjogpeaaWSmall
namespace Go.Proofs.Ytoeiongnjogpeaa
open Go.RowKit
set_option maxRecDepth 100000 in
set_option maxHeartbeats 4000000 in
theorem waysShortest_walk (V : OpenA) (x : OpenM) (_u0 : Unit) (u : Int) (w : World) (hx : RdO w V x) :
    Calls Try.prog 5 #[openV V x, .int .i64 u] w fun e w' => e = .returned (.bool true) ∧ Below w.heap.size w w' := by
  obtain ⟨W1, hW1⟩ : ∃ W1, W1 = w.alloc (.cells #[.slice V.V.N x.m.nodes.length V.V.n, .slice V.V.L x.m.lifts.length V.V.l, .slice V.V.R x.m.runs.length V.V.r, .slice V.V.B x.m.bases.length V.V.b, .slice V.lifts x.lifts.length V.lc, .slice V.runs x.runs.length V.rc] 52) := ⟨_, rfl⟩
  have hb1 : Below w.heap.size w W1 := by rw [hW1]; exact box_below _ _
  have hbox : openBox W1 w.heap.size V.V.N V.V.L V.V.R V.V.B V.lifts V.runs V.V.n V.V.l V.V.r V.V.b V.lc V.rc x := by rw [hW1]; exact openBox_new _ _ _ _ _ _ _ _ _ _ _ _ _ _
  have ha := walive_any W1
  have hsm := fun W (h : Below W1.heap.size W1 W) => small_any V x W ((hx.below hb1).below h)
  have HXX := Lib.hid (hx.below hb1)
  unfold openV at hsm
  obtain ⟨V_, hVV⟩ : ∃ V_, V_ = V := ⟨_, rfl⟩
  rw [← hVV] at HXX
  have HVV := Lib.hid hVV
  obtain ⟨⟨N_, L_, R_, B_, nc, lc, rc, bc⟩, F_, G_, fc, gc⟩ := V
  dsimp only at hbox hsm hW1
  have HA := Lib.hid ha
  have HSM := Lib.hid hsm
  have HBOX := Lib.hid (fun W (h : Below W1.heap.size W1 W) => hbox.below h)
  have HB1 := Lib.hid hb1
  clear hx hb1 hbox ha hsm hVV
  unfold openV
  dsimp only
  go_enter Try.func5, Try.ntmps5
  rw [hW1] at HA
  go_wp2_with fail
  refine HA.out.mono ?_
  rw [← hW1]
  rintro e w2 ⟨rfl, hb⟩
  have HB2 := Lib.hid hb
  obtain ⟨q0, q1, q2, q3, q4, q5⟩ := HBOX.out w2 HB2.out
  have HS2 := Lib.hid (HSM.out w2 HB2.out)
  clear hb HA HSM hW1
  go_wp2_with fail
  refine HS2.out.mono ?_
  rintro e w3 ⟨sb, rfl, hsb, hb⟩
  have HB3 := Lib.hid (below_go HB2.out hb)
  have HSB := Lib.hid hsb
  clear hb HS2 hsb q0 q1 q2 q3 q4 q5
  cases sb with
  | false =>
    go_wp2_with fail
    go_ret
    exact ⟨rfl, below_in HB1.out HB3.out HB1.out.size⟩
  | true =>
    obtain ⟨h100, h101, hok⟩ := HSB.out rfl
    have HOK := Lib.hid hok
    obtain ⟨H, hH⟩ : ∃ H, H = w.heap.size := ⟨_, rfl⟩
    have HBX := Lib.hid (fun W (h : Below w3.heap.size w3 W) => HBOX.out W (below_go HB3.out h))
    have HX3 := Lib.hid (HXX.out.below HB3.out)
    have HBE := Lib.hid (below_in HB1.out HB3.out HB1.out.size)
    rw [← hH] at HBX ⊢
    clear HSB hok hH HBOX HXX HB3 HB2 HB1
    have cw := fun W (h : Below w3.heap.size w3 W) => wway_any V_.V x.m HOK.out V_.runs V_.rc x.runs u W (HX3.out.m.below h) (HX3.out.runs.below h)
    rw [HVV.out] at cw
    unfold mapV at cw
    dsimp only at cw
    have CW := Lib.hid cw
    clear cw
    have dw := fun W (h : Below w3.heap.size w3 W) => rway_any V_.V x.m HOK.out V_.runs V_.rc x.runs u W (HX3.out.m.below h) (HX3.out.runs.below h)
    rw [HVV.out] at dw
    unfold mapV at dw
    dsimp only at dw
    have DW := Lib.hid dw
    clear dw
    have HSAME := Lib.hid (fun A B c d l W (hl : RdI W A l) (hm : RdI W B l) => (same_any A B c d l l W hl hm).mono (fun e w' (h : e = .returned (.bool (decide (l = l))) ∧ Below W.heap.size W w') => (⟨by rw [h.1]; simp, h.2⟩ : e = .returned (.bool true) ∧ Below W.heap.size W w')))
    clear HX3 HVV
    have HC1 := Lib.hid (CW.out w3 (Below.refl _ _))
    obtain ⟨q0, q1, q2, q3, q4, q5⟩ := HBX.out w3 (Below.refl _ _)
    go_wp2_with fail
    refine HC1.out.mono ?_
    rintro e w4 ⟨A4, c4, ⟨ids, n, ok⟩, rfl, hs4, hr4, hb4⟩
    have HB4 := Lib.hid hb4
    have HR4 := Lib.hid hr4
    have HS4 := Lib.hid hs4
    clear hb4 hr4 hs4 HC1 q0 q1 q2 q3 q4 q5
    have HC1 := Lib.hid (DW.out w4 HB4.out)
    obtain ⟨q0, q1, q2, q3, q4, q5⟩ := HBX.out w4 HB4.out
    dsimp only
    go_wp2_with fail
    refine HC1.out.mono ?_
    rintro e w5 ⟨A5, c5, st, rfl, hs5, hr5, hb5⟩
    obtain rfl := HS4.out.uniq hs5
    have HB5 := Lib.hid (below_go HB4.out hb5)
    have HR5 := Lib.hid (HR4.out.below hb5)
    have HR6 := Lib.hid hr5
    clear hb5 hr5 hs5 HC1 q0 q1 q2 q3 q4 q5 HR4 HS4
    dsimp only at HR5 HR6
    dsimp only
    have t1 : (n == n) = true := by simp
    have t2 : (ok == ok) = true := by simp
    have HC1 := Lib.hid (HSAME.out _ _ c4 c5 _ _ HR5.out HR6.out)
    go_wp2_with fail
    refine HC1.out.mono ?_
    rintro e w6 ⟨rfl, hb6⟩
    have HB6 := Lib.hid (below_go HB5.out hb6)
    clear hb6 HC1
    go_wp2_with fail
    go_ret
    exact ⟨rfl, below_in HBE.out HB6.out HBE.out.size⟩
end Go.Proofs.Ytoeiongnjogpeaa
