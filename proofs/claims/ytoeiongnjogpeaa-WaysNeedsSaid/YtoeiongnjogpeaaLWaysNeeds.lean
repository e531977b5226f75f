/- Proved here: the law WaysNeeds returns true for all arguments that read, and changes nothing that was there before. Written by gen_wlaw.py. -/
import Derived.Test.YtoeiongnjogpeaaWSmall
namespace Go.Proofs.Ytoeiongnjogpeaa
open Go.RowKit
set_option maxRecDepth 100000 in
set_option maxHeartbeats 4000000 in
theorem waysNeeds_walk (V : OpenA) (x : OpenM) (_u0 : Unit) (q : Int) (w : World) (hx : RdO w V x) :
    Calls Try.prog 6 #[openV V x, .int .i64 q] w fun e w' => e = .returned (.bool true) ∧ Below w.heap.size w w' := by
  obtain ⟨W1, hW1⟩ : ∃ W1, W1 = w.alloc (.cells #[.slice V.V.N x.m.nodes.length V.V.n, .slice V.V.L x.m.lifts.length V.V.l, .slice V.V.R x.m.runs.length V.V.r, .slice V.V.B x.m.bases.length V.V.b, .slice V.lifts x.lifts.length V.lc, .slice V.runs x.runs.length V.rc] 52) := ⟨_, rfl⟩
  have hb1 : Below w.heap.size w W1 := by rw [hW1]; exact box_below _ _
  have hbox : openBox W1 w.heap.size V.V.N V.V.L V.V.R V.V.B V.lifts V.runs V.V.n V.V.l V.V.r V.V.b V.lc V.rc x := by rw [hW1]; exact openBox_new _ _ _ _ _ _ _ _ _ _ _ _ _ _
  have ha := walive_any W1
  have hsm := fun W (h : Below W1.heap.size W1 W) => small_any V x W ((hx.below hb1).below h)
  have HXX := Lib.hid (hx.below hb1)
  unfold openV at hsm
  obtain ⟨V_, hVV⟩ : ∃ V_, V_ = V := ⟨_, rfl⟩
  rw [← hVV] at HXX
  have HVV := Lib.hid hVV
  obtain ⟨⟨N_, L_, R_, B_, nc, lc, rc, bc⟩, F_, G_, fc, gc⟩ := V
  dsimp only at hbox hsm hW1
  have HA := Lib.hid ha
  have HSM := Lib.hid hsm
  have HBOX := Lib.hid (fun W (h : Below W1.heap.size W1 W) => hbox.below h)
  have HB1 := Lib.hid hb1
  clear hx hb1 hbox ha hsm hVV
  unfold openV
  dsimp only
  go_enter Try.func6, Try.ntmps6
  rw [hW1] at HA
  go_wp2_with fail
  refine HA.out.mono ?_
  rw [← hW1]
  rintro e w2 ⟨rfl, hb⟩
  have HB2 := Lib.hid hb
  obtain ⟨q0, q1, q2, q3, q4, q5⟩ := HBOX.out w2 HB2.out
  have HS2 := Lib.hid (HSM.out w2 HB2.out)
  clear hb HA HSM hW1
  go_wp2_with fail
  refine HS2.out.mono ?_
  rintro e w3 ⟨sb, rfl, hsb, hb⟩
  have HB3 := Lib.hid (below_go HB2.out hb)
  have HSB := Lib.hid hsb
  clear hb HS2 hsb q0 q1 q2 q3 q4 q5
  cases sb with
  | false =>
    go_wp2_with fail
    go_ret
    exact ⟨rfl, below_in HB1.out HB3.out HB1.out.size⟩
  | true =>
    obtain ⟨h100, h101, hok⟩ := HSB.out rfl
    have HOK := Lib.hid hok
    obtain ⟨H, hH⟩ : ∃ H, H = w.heap.size := ⟨_, rfl⟩
    have HBX := Lib.hid (fun W (h : Below w3.heap.size w3 W) => HBOX.out W (below_go HB3.out h))
    have HX3 := Lib.hid (HXX.out.below HB3.out)
    have HBE := Lib.hid (below_in HB1.out HB3.out HB1.out.size)
    rw [← hH] at HBX ⊢
    clear HSB hok hH HBOX HXX HB3 HB2 HB1
    have cf := fun W (h : Below w3.heap.size w3 W) => wfeeds_any V_.V x.m HOK.out V_.lifts V_.runs V_.lc V_.rc x.lifts x.runs q W (HX3.out.m.below h) (HX3.out.lifts.below h) (HX3.out.runs.below h)
    rw [HVV.out] at cf
    unfold mapV at cf
    dsimp only at cf
    have CF := Lib.hid cf
    clear cf
    have df := fun W (h : Below w3.heap.size w3 W) => rfeeds_any V_.V x.m HOK.out V_.lifts V_.runs V_.lc V_.rc x.lifts x.runs q W (HX3.out.m.below h) (HX3.out.lifts.below h) (HX3.out.runs.below h)
    rw [HVV.out] at df
    unfold mapV at df
    dsimp only at df
    have DF := Lib.hid df
    clear df
    have cn := fun W (h : Below w3.heap.size w3 W) => wneeds_any V_.V x.m HOK.out V_.lifts V_.runs V_.lc V_.rc x.lifts x.runs q W (HX3.out.m.below h) (HX3.out.lifts.below h) (HX3.out.runs.below h) (by omega)
    rw [HVV.out] at cn
    unfold mapV at cn
    dsimp only at cn
    have CN := Lib.hid cn
    clear cn
    have dn := fun W (h : Below w3.heap.size w3 W) => rneeds_any V_.V x.m HOK.out V_.lifts V_.runs V_.lc V_.rc x.lifts x.runs q W (HX3.out.m.below h) (HX3.out.lifts.below h) (HX3.out.runs.below h) (by omega)
    rw [HVV.out] at dn
    unfold mapV at dn
    dsimp only at dn
    have DN := Lib.hid dn
    clear dn
    have HSAME := Lib.hid (fun A B c d l W (hl : RdI W A l) (hm : RdI W B l) => (same_any A B c d l l W hl hm).mono (fun e w' (h : e = .returned (.bool (decide (l = l))) ∧ Below W.heap.size W w') => (⟨by rw [h.1]; simp, h.2⟩ : e = .returned (.bool true) ∧ Below W.heap.size W w')))
    have hb0 : Hid (Below w3.heap.size w3 w3) := Below.refl _ _
    have hb2 : Hid (Below w3.heap.size w3 w3.drew) := (Below.refl _ _).drew
    clear HX3 HVV
    have tb := fun (b : Bool) => (by simp : (b == b) = true)
    go_wp2_with fail
    go_region_held3 (fun W : World => W.cell? ⟨H, 0, none⟩ = some (.slice N_ x.m.nodes.length nc) ∧ W.cell? ⟨H, 1, none⟩ = some (.slice L_ x.m.lifts.length lc) ∧ W.cell? ⟨H, 2, none⟩ = some (.slice R_ x.m.runs.length rc) ∧ W.cell? ⟨H, 3, none⟩ = some (.slice B_ x.m.bases.length bc) ∧ W.cell? ⟨H, 4, none⟩ = some (.slice F_ x.lifts.length fc) ∧ W.cell? ⟨H, 5, none⟩ = some (.slice G_ x.runs.length gc))
      (first | exact HBX.out _ HB8.out | exact HBX.out _ hb0.out | exact HBX.out _ hb2.out)
      (first | (go_at_call 31; refine (CF.out _ (by first | exact HB8.out | exact hb2.out | exact hb0.out)).mono ?_; rintro e w8 ⟨b1, rfl, hs8, hb8⟩; (try obtain rfl := FeedsS.uniq hs8 HF2.out); have HF1 := Lib.hid hs8; have HB8 := Lib.hid (show Below w3.heap.size w3 w8 from by first | exact below_go HB8.out hb8 | exact below_go hb2.out hb8 | exact below_go hb0.out hb8); clear hb8 hs8) | (go_at_call 32; refine (DF.out _ (by first | exact HB8.out | exact hb2.out | exact hb0.out)).mono ?_; rintro e w8 ⟨b2, rfl, hs8, hb8⟩; (try obtain rfl := FeedsS.uniq hs8 HF1.out); have HF2 := Lib.hid hs8; have HB8 := Lib.hid (show Below w3.heap.size w3 w8 from by first | exact below_go HB8.out hb8 | exact below_go hb2.out hb8 | exact below_go hb0.out hb8); clear hb8 hs8) | (go_at_call 33; refine (CN.out _ (by first | exact HB8.out | exact hb2.out | exact hb0.out)).mono ?_; rintro e w8 ⟨Ae, ce, se, rfl, hs8, hr8, hb8⟩; (try have HRf := Lib.hid (HRf.out.below hb8)); have HB8 := Lib.hid (show Below w3.heap.size w3 w8 from by first | exact below_go HB8.out hb8 | exact below_go hb2.out hb8 | exact below_go hb0.out hb8); have HRe := Lib.hid hr8; have HSe := Lib.hid hs8; clear hb8 hr8 hs8) | (go_at_call 34; refine (DN.out _ (by first | exact HB8.out | exact hb2.out | exact hb0.out)).mono ?_; rintro e w8 ⟨Af, cf, sf, rfl, hs8, hr8, hb8⟩; (try have HRe := Lib.hid (HRe.out.below hb8)); have HB8 := Lib.hid (show Below w3.heap.size w3 w8 from by first | exact below_go HB8.out hb8 | exact below_go hb2.out hb8 | exact below_go hb0.out hb8); have HRf := Lib.hid hr8; have HSf := Lib.hid hs8; clear hb8 hr8 hs8) | (go_at_call 23; (first | (obtain rfl := NeedsS.uniq HSe.out HSf.out; refine (HSAME.out _ _ _ _ _ _ HRe.out HRf.out).mono ?_; rintro e w8 ⟨rfl, hb8⟩; clear HRe HRf HSe HSf)); have HB8 := Lib.hid (show Below w3.heap.size w3 w8 from by first | exact below_go HB8.out hb8 | exact below_go hb2.out hb8 | exact below_go hb0.out hb8); clear hb8))
    all_goals
      go_wp2_with fail
      go_ret
      exact ⟨rfl, below_in HBE.out HB8.out HBE.out.size⟩
end Go.Proofs.Ytoeiongnjogpeaa
