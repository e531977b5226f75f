/- Proved here: Stranded, of the package ways and of the reference of chapter 11. Condition: the map reads and is right, the lists read. Written by gen_ways.py. -/
import Derived.Test.YtoeiongnjogpeaaRReach
namespace Go.Proofs.Ytoeiongnjogpeaa
open Go.RowKit
/-- The nodes that are reached and not home. -/
def StrS (m : MapM) (lifts runs zs : List Int) : Prop := ∃ ss hs, Reached m lifts runs ss ∧ HomeS m runs hs ∧ zs = minusL ss hs
theorem StrS.uniq {m : MapM} {lifts runs a b : List Int} (h : StrS m lifts runs a) (k : StrS m lifts runs b) : a = b := by
  obtain ⟨s1, h1, r1, q1, rfl⟩ := h
  obtain ⟨s2, h2, r2, q2, rfl⟩ := k
  rw [RS5.uniq2 r1 r2, RS5.uniq2 q1 q2]
theorem StrS.len {m : MapM} (ok : MapOk m) {lifts runs a : List Int} (h : StrS m lifts runs a) : a.length ≤ 1000 := by
  obtain ⟨s1, h1, r1, q1, rfl⟩ := h
  have := minusL_len s1 h1
  have := r1.len ok
  omega
set_option maxRecDepth 100000 in
set_option maxHeartbeats 4000000 in
theorem wstr_any (V : MapA) (m : MapM) (ok : MapOk m) (F G : Option Addr) (d c : Nat) (lifts runs : List Int) (w : World) (hm : RdM w V m) (hf : RdI w F lifts) (hg : RdI w G runs) :
    Calls Try.prog 27 #[mapV V m, .slice F lifts.length d, .slice G runs.length c] w fun e w' => ∃ A' c' ss, e = .returned (.slice A' ss.length c') ∧ StrS m lifts runs ss ∧ RdI w' A' ss ∧ Below w.heap.size w w' := by
  obtain ⟨W1, hW1⟩ : ∃ W1, W1 = w.alloc (.cells #[.slice V.N m.nodes.length V.n, .slice V.L m.lifts.length V.l, .slice V.R m.runs.length V.r, .slice V.B m.bases.length V.b] 27) := ⟨_, rfl⟩
  have hb1 : Below w.heap.size w W1 := by rw [hW1]; exact box_below _ _
  have hbox : mapBox W1 w.heap.size V.N V.L V.R V.B V.n V.l V.r V.b m := by rw [hW1]; exact mapBox_new _ _ _ _ _ _ _ _ _ _
  have hr := fun W (h : Below W1.heap.size W1 W) => wreach_any V m ok F G d c lifts runs W ((hm.below hb1).below h) ((hf.below hb1).below h) ((hg.below hb1).below h)
  have hh := fun W (h : Below W1.heap.size W1 W) => whome_any V m ok G c runs W ((hm.below hb1).below h) ((hg.below hb1).below h)
  have HLR := Lib.hid (fun ss (h : Reached m lifts runs ss) => h.len ok)
  obtain ⟨N_, L_, R_, B_, nc, lc, rc, bc⟩ := V
  dsimp only at hbox hr hh hW1
  unfold mapV at hr hh
  dsimp only at hr hh
  have HR := Lib.hid hr
  have HH := Lib.hid hh
  have HW := Lib.hid (fun A B c d a b W (ha : RdI W A a) (hb : RdI W B b) (hl : a.length ≤ 1000) => wwithout_any A B c d a b W ha hb (by omega))
  have HBOX := Lib.hid (fun W (h : Below W1.heap.size W1 W) => hbox.below h)
  have HB1 := Lib.hid hb1
  have hb0 : Hid (Below W1.heap.size W1 W1) := Below.refl _ _
  have hb2 : Hid (Below W1.heap.size W1 W1.drew) := (Below.refl _ _).drew
  clear hm hf hg hr hh hb1 hbox ok
  unfold mapV
  dsimp only
  go_enter Try.func27, Try.ntmps27
  go_wp2_with fail
  rw [← hW1]
  clear hW1
  go_region_held3 (fun W : World => W.cell? ⟨w.heap.size, 0, none⟩ = some (.slice N_ m.nodes.length nc) ∧ W.cell? ⟨w.heap.size, 1, none⟩ = some (.slice L_ m.lifts.length lc) ∧ W.cell? ⟨w.heap.size, 2, none⟩ = some (.slice R_ m.runs.length rc) ∧ W.cell? ⟨w.heap.size, 3, none⟩ = some (.slice B_ m.bases.length bc))
    (first | exact HBOX.out _ hb0.out | exact HBOX.out _ hb2.out | exact HBOX.out _ HB9.out | exact HBOX.out _ HB8.out)
    (first | (go_at_call 24; refine (HR.out _ (by first | exact HB8.out | exact hb0.out | exact hb2.out)).mono ?_; rintro e w8 ⟨A8, c8, ss, rfl, hs8, hr8, hb8⟩; (try have HRH := Lib.hid (HRH.out.below hb8)); have HB8 := Lib.hid (show Below W1.heap.size W1 w8 from by first | exact below_in HB8.out hb8 HB8.out.size | exact hb8 | exact below_in hb2.out hb8 hb2.out.size); have HRS := Lib.hid hr8; have HSS := Lib.hid hs8; clear hb8 hr8 hs8) | (go_at_call 14; refine (HH.out _ (by first | exact HB8.out | exact hb0.out | exact hb2.out)).mono ?_; rintro e w8 ⟨A7, c7, hs, rfl, hs8, hr8, hb8⟩; (try have HRS := Lib.hid (HRS.out.below hb8)); have HB8 := Lib.hid (show Below W1.heap.size W1 w8 from by first | exact below_in HB8.out hb8 HB8.out.size | exact hb8 | exact below_in hb2.out hb8 hb2.out.size); have HRH := Lib.hid hr8; have HSH := Lib.hid hs8; clear hb8 hr8 hs8) | (go_at_call 73; refine (HW.out _ _ _ _ _ _ _ HRS.out HRH.out (HLR.out _ HSS.out)).mono ?_; rintro e w9 ⟨A9, c9, rfl, hr9, hb9⟩; have HB9 := Lib.hid (below_in HB8.out hb9 HB8.out.size); have HR9 := Lib.hid hr9; clear hb9 hr9))
  all_goals
    have HST := Lib.hid (show StrS m lifts runs (minusL ss hs) from ⟨ss, hs, HSS.out, HSH.out, rfl⟩)
    obtain ⟨zz, hzz⟩ : ∃ zz, zz = minusL ss hs := ⟨_, rfl⟩
    rw [← hzz] at HST HR9 ⊢
    clear hzz
    go_wp2_with fail
    go_ret
    first | exact ⟨A9, c9, zz, rfl, HST.out, HR9.out, below_in HB1.out HB9.out HB1.out.size⟩ | exact ⟨A9, zz, ⟨_, rfl⟩, HST.out, HR9.out, below_in HB1.out HB9.out HB1.out.size⟩
set_option maxRecDepth 100000 in
set_option maxHeartbeats 4000000 in
theorem rstr_any (V : MapA) (m : MapM) (ok : MapOk m) (F G : Option Addr) (d c : Nat) (lifts runs : List Int) (w : World) (hm : RdM w V m) (hf : RdI w F lifts) (hg : RdI w G runs) :
    Calls Try.prog 28 #[mapV V m, .slice F lifts.length d, .slice G runs.length c] w fun e w' => ∃ A' c' ss, e = .returned (.slice A' ss.length c') ∧ StrS m lifts runs ss ∧ RdI w' A' ss ∧ Below w.heap.size w w' := by
  obtain ⟨W1, hW1⟩ : ∃ W1, W1 = w.alloc (.cells #[.slice V.N m.nodes.length V.n, .slice V.L m.lifts.length V.l, .slice V.R m.runs.length V.r, .slice V.B m.bases.length V.b] 27) := ⟨_, rfl⟩
  have hb1 : Below w.heap.size w W1 := by rw [hW1]; exact box_below _ _
  have hbox : mapBox W1 w.heap.size V.N V.L V.R V.B V.n V.l V.r V.b m := by rw [hW1]; exact mapBox_new _ _ _ _ _ _ _ _ _ _
  have hr := fun W (h : Below W1.heap.size W1 W) => rreachable_any V m ok F G d c lifts runs W ((hm.below hb1).below h) ((hf.below hb1).below h) ((hg.below hb1).below h)
  have hh := fun W (h : Below W1.heap.size W1 W) => rhome_any V m ok G c runs W ((hm.below hb1).below h) ((hg.below hb1).below h)
  have HLR := Lib.hid (fun ss (h : Reached m lifts runs ss) => h.len ok)
  obtain ⟨N_, L_, R_, B_, nc, lc, rc, bc⟩ := V
  dsimp only at hbox hr hh hW1
  unfold mapV at hr hh
  dsimp only at hr hh
  have HR := Lib.hid hr
  have HH := Lib.hid hh
  have HW := Lib.hid (fun A B c d a b W (ha : RdI W A a) (hb : RdI W B b) (hl : a.length ≤ 1000) => rminus_any A B c d a b W ha hb (by omega))
  have HBOX := Lib.hid (fun W (h : Below W1.heap.size W1 W) => hbox.below h)
  have HB1 := Lib.hid hb1
  have hb0 : Hid (Below W1.heap.size W1 W1) := Below.refl _ _
  have hb2 : Hid (Below W1.heap.size W1 W1.drew) := (Below.refl _ _).drew
  clear hm hf hg hr hh hb1 hbox ok
  unfold mapV
  dsimp only
  go_enter Try.func28, Try.ntmps28
  go_wp2_with fail
  rw [← hW1]
  clear hW1
  go_region_held3 (fun W : World => W.cell? ⟨w.heap.size, 0, none⟩ = some (.slice N_ m.nodes.length nc) ∧ W.cell? ⟨w.heap.size, 1, none⟩ = some (.slice L_ m.lifts.length lc) ∧ W.cell? ⟨w.heap.size, 2, none⟩ = some (.slice R_ m.runs.length rc) ∧ W.cell? ⟨w.heap.size, 3, none⟩ = some (.slice B_ m.bases.length bc))
    (first | exact HBOX.out _ hb0.out | exact HBOX.out _ hb2.out | exact HBOX.out _ HB9.out | exact HBOX.out _ HB8.out)
    (first | (go_at_call 25; refine (HR.out _ (by first | exact HB8.out | exact hb0.out | exact hb2.out)).mono ?_; rintro e w8 ⟨A8, c8, ss, rfl, hs8, hr8, hb8⟩; (try have HRH := Lib.hid (HRH.out.below hb8)); have HB8 := Lib.hid (show Below W1.heap.size W1 w8 from by first | exact below_in HB8.out hb8 HB8.out.size | exact hb8 | exact below_in hb2.out hb8 hb2.out.size); have HRS := Lib.hid hr8; have HSS := Lib.hid hs8; clear hb8 hr8 hs8) | (go_at_call 26; refine (HH.out _ (by first | exact HB8.out | exact hb0.out | exact hb2.out)).mono ?_; rintro e w8 ⟨A7, c7, hs, rfl, hs8, hr8, hb8⟩; (try have HRS := Lib.hid (HRS.out.below hb8)); have HB8 := Lib.hid (show Below W1.heap.size W1 w8 from by first | exact below_in HB8.out hb8 HB8.out.size | exact hb8 | exact below_in hb2.out hb8 hb2.out.size); have HRH := Lib.hid hr8; have HSH := Lib.hid hs8; clear hb8 hr8 hs8) | (go_at_call 74; refine (HW.out _ _ _ _ _ _ _ HRS.out HRH.out (HLR.out _ HSS.out)).mono ?_; rintro e w9 ⟨A9, c9, rfl, hr9, hb9⟩; have HB9 := Lib.hid (below_in HB8.out hb9 HB8.out.size); have HR9 := Lib.hid hr9; clear hb9 hr9))
  all_goals
    have HST := Lib.hid (show StrS m lifts runs (minusL ss hs) from ⟨ss, hs, HSS.out, HSH.out, rfl⟩)
    obtain ⟨zz, hzz⟩ : ∃ zz, zz = minusL ss hs := ⟨_, rfl⟩
    rw [← hzz] at HST HR9 ⊢
    clear hzz
    go_wp2_with fail
    go_ret
    first | exact ⟨A9, c9, zz, rfl, HST.out, HR9.out, below_in HB1.out HB9.out HB1.out.size⟩ | exact ⟨A9, zz, ⟨_, rfl⟩, HST.out, HR9.out, below_in HB1.out HB9.out HB1.out.size⟩
end Go.Proofs.Ytoeiongnjogpeaa
