/- Proved here: Feeds, of the package ways and of the reference of chapter 11. Condition: the map reads and is right, the lists read. Written by gen_ways.py. -/
import Derived.Test.YtoeiongnjogpeaaWStr
namespace Go.Proofs.Ytoeiongnjogpeaa
open Go.RowKit
/-- Is the upper node of the run reached? -/
def FeedsS (m : MapM) (lifts runs : List Int) (q : Int) (b : Bool) : Prop := match findRun m.runs q with
  | none => b = false
  | some x => ∃ ss, Reached m lifts runs ss ∧ b = decide (x.src ∈ ss)
theorem FeedsS.uniq {m : MapM} {lifts runs : List Int} {q : Int} {a b : Bool} (h : FeedsS m lifts runs q a) (k : FeedsS m lifts runs q b) : a = b := by
  unfold FeedsS at h k
  cases hf : findRun m.runs q with
  | none => rw [hf] at h k; rw [h, k]
  | some x =>
    rw [hf] at h k
    obtain ⟨s, r, rfl⟩ := h
    obtain ⟨s2, r2, rfl⟩ := k
    rw [RS5.uniq2 r r2]
set_option maxRecDepth 100000 in
set_option maxHeartbeats 4000000 in
theorem wfeeds_any (V : MapA) (m : MapM) (ok : MapOk m) (F G : Option Addr) (d c : Nat) (lifts runs : List Int) (q : Int) (w : World) (hm : RdM w V m) (hf : RdI w F lifts) (hg : RdI w G runs) :
    Calls Try.prog 31 #[mapV V m, .slice F lifts.length d, .slice G runs.length c, .int .i64 q] w fun e w' => ∃ b, e = .returned (.bool b) ∧ FeedsS m lifts runs q b ∧ Below w.heap.size w w' := by
  obtain ⟨W1, hW1⟩ : ∃ W1, W1 = w.alloc (.cells #[.slice V.N m.nodes.length V.n, .slice V.L m.lifts.length V.l, .slice V.R m.runs.length V.r, .slice V.B m.bases.length V.b] 27) := ⟨_, rfl⟩
  have hb1 : Below w.heap.size w W1 := by rw [hW1]; exact box_below _ _
  have hbox : mapBox W1 w.heap.size V.N V.L V.R V.B V.n V.l V.r V.b m := by rw [hW1]; exact mapBox_new _ _ _ _ _ _ _ _ _ _
  have hr := fun W (h : Below W1.heap.size W1 W) => wreach_any V m ok F G d c lifts runs W ((hm.below hb1).below h) ((hf.below hb1).below h) ((hg.below hb1).below h)
  have hl := trun_any V m q W1 (hm.below hb1)
  obtain ⟨N_, L_, R_, B_, nc, lc, rc, bc⟩ := V
  dsimp only at hbox hr hl hW1
  unfold mapV at hr hl
  dsimp only at hr hl
  have HR := Lib.hid hr
  have HH := Lib.hid (fun A c a x W (ha : RdI W A a) => contains_any A c a x W ha)
  have HBOX := Lib.hid (fun W (h : Below W1.heap.size W1 W) => hbox.below h)
  have HB1 := Lib.hid hb1
  unfold mapV
  dsimp only
  cases hfr : findRun m.runs q with
  | none =>
    unfold runR at hl
    rw [hfr] at hl
    dsimp only at hl
    have HL := Lib.hid hl
    have HF := Lib.hid (show FeedsS m lifts runs q false by unfold FeedsS; rw [hfr])
    clear hm hf hg hr hl hb1 hbox ok hfr HR HH
    go_enter Try.func31, Try.ntmps31
    rw [hW1] at HL
    go_wp2_with fail
    refine HL.out.mono ?_
    rw [← hW1]
    rintro e w2 ⟨rfl, hb2⟩
    have HB2 := Lib.hid hb2
    clear hb2 HL hW1
    go_wp2_with fail
    go_big_quiet (fail)
    go_wp2_with fail
    go_ret
    have hfin := below_drewN (below_in HB1.out (HB2.out.alloc HB2.out.size (.cells #[.int .i64 0, .int .i64 0, .int .i64 0, .int .i64 0, .int .i64 0, .int .i64 0, .int .i64 0] 37)) HB1.out.size) nq
    first | exact ⟨HF.out, hfin⟩ | exact ⟨false, rfl, HF.out, hfin⟩
  | some x =>
    unfold runR at hl
    rw [hfr] at hl
    dsimp only at hl
    have HL := Lib.hid hl
    have HF := Lib.hid (show ∀ ss, Reached m lifts runs ss → FeedsS m lifts runs q (decide (x.src ∈ ss)) by unfold FeedsS; rw [hfr]; exact fun ss h => ⟨ss, h, rfl⟩)
    clear hm hf hg hr hl hb1 hbox ok hfr
    go_enter Try.func31, Try.ntmps31
    rw [hW1] at HL
    go_wp2_with fail
    refine HL.out.mono ?_
    rw [← hW1]
    rintro e w2 ⟨rfl, hb2⟩
    have HB2 := Lib.hid hb2
    clear hb2 HL hW1
    obtain ⟨W3, hW3⟩ : ∃ W3, W3 = w2.alloc (.cells #[.int .i64 x.id, .int .i64 x.op, .int .i64 x.src, .int .i64 x.dst, .int .i64 x.grade, .int .i64 x.zone, .int .i64 x.len] 37) := ⟨_, rfl⟩
    have hb3 : Below W1.heap.size W1 W3 := by rw [hW3]; exact HB2.out.alloc HB2.out.size _
    have hx : W3.cell? ⟨w2.heap.size, 2, none⟩ = some (.int .i64 x.src) := by rw [hW3]; exact box_cell _ _ _ _ _ rfl
    have HX := Lib.hid (fun W (h : Below W3.heap.size W3 W) => (⟨(HBOX.out W (below_in hb3 h hb3.size)).1, (HBOX.out W (below_in hb3 h hb3.size)).2.1, (HBOX.out W (below_in hb3 h hb3.size)).2.2.1, (HBOX.out W (below_in hb3 h hb3.size)).2.2.2, (h.cell (World.block_lt_of_cell? _ _ hx)).trans hx⟩ : W.cell? ⟨w.heap.size, 0, none⟩ = some (.slice N_ m.nodes.length nc) ∧ W.cell? ⟨w.heap.size, 1, none⟩ = some (.slice L_ m.lifts.length lc) ∧ W.cell? ⟨w.heap.size, 2, none⟩ = some (.slice R_ m.runs.length rc) ∧ W.cell? ⟨w.heap.size, 3, none⟩ = some (.slice B_ m.bases.length bc) ∧ W.cell? ⟨w2.heap.size, 2, none⟩ = some (.int .i64 x.src)))
    have HB3 := Lib.hid hb3
    have hb0 : Hid (Below W3.heap.size W3 W3) := Below.refl _ _
    have hb2 : Hid (Below W3.heap.size W3 W3.drew) := (Below.refl _ _).drew
    clear hb3 hx
    go_wp2_with fail
    rw [← hW3]
    clear hW3
    go_region_held3 (fun W : World => W.cell? ⟨w.heap.size, 0, none⟩ = some (.slice N_ m.nodes.length nc) ∧ W.cell? ⟨w.heap.size, 1, none⟩ = some (.slice L_ m.lifts.length lc) ∧ W.cell? ⟨w.heap.size, 2, none⟩ = some (.slice R_ m.runs.length rc) ∧ W.cell? ⟨w.heap.size, 3, none⟩ = some (.slice B_ m.bases.length bc) ∧ W.cell? ⟨w2.heap.size, 2, none⟩ = some (.int .i64 x.src))
      (first | exact HX.out _ hb0.out | exact HX.out _ hb2.out | exact HX.out _ HB8.out)
      (first | (go_at_call 24; refine (HR.out _ (by first | exact below_in HB3.out hb0.out HB3.out.size | exact below_in HB3.out hb2.out HB3.out.size)).mono ?_; rintro e w8 ⟨A8, c8, ss, rfl, hs8, hr8, hb8⟩; have HB8 := Lib.hid (show Below W3.heap.size W3 w8 from by first | exact hb8 | exact below_in hb2.out hb8 hb2.out.size); have HRS := Lib.hid hr8; have HSS := Lib.hid hs8; clear hb8 hr8 hs8) | (go_at_call 61; refine (HH.out _ _ _ _ _ HRS.out).mono ?_; rintro e w9 ⟨rfl, rfl⟩))
    all_goals
      have HST := Lib.hid (HF.out ss HSS.out)
      obtain ⟨bb, hbb⟩ : ∃ bb, bb = decide (x.src ∈ ss) := ⟨_, rfl⟩
      rw [← hbb] at HST ⊢
      clear hbb
      go_wp2_with fail
      go_ret
      have hfin := below_in HB1.out (below_in HB3.out HB8.out HB3.out.size) HB1.out.size
      first | exact ⟨HST.out, hfin⟩ | exact ⟨bb, rfl, HST.out, hfin⟩
set_option maxRecDepth 100000 in
set_option maxHeartbeats 4000000 in
theorem rfeeds_any (V : MapA) (m : MapM) (ok : MapOk m) (F G : Option Addr) (d c : Nat) (lifts runs : List Int) (q : Int) (w : World) (hm : RdM w V m) (hf : RdI w F lifts) (hg : RdI w G runs) :
    Calls Try.prog 32 #[mapV V m, .slice F lifts.length d, .slice G runs.length c, .int .i64 q] w fun e w' => ∃ b, e = .returned (.bool b) ∧ FeedsS m lifts runs q b ∧ Below w.heap.size w w' := by
  obtain ⟨W1, hW1⟩ : ∃ W1, W1 = w.alloc (.cells #[.slice V.N m.nodes.length V.n, .slice V.L m.lifts.length V.l, .slice V.R m.runs.length V.r, .slice V.B m.bases.length V.b] 27) := ⟨_, rfl⟩
  have hb1 : Below w.heap.size w W1 := by rw [hW1]; exact box_below _ _
  have hbox : mapBox W1 w.heap.size V.N V.L V.R V.B V.n V.l V.r V.b m := by rw [hW1]; exact mapBox_new _ _ _ _ _ _ _ _ _ _
  have hr := fun W (h : Below W1.heap.size W1 W) => rreachable_any V m ok F G d c lifts runs W ((hm.below hb1).below h) ((hf.below hb1).below h) ((hg.below hb1).below h)
  have hl := rrun_any V m q W1 (hm.below hb1)
  obtain ⟨N_, L_, R_, B_, nc, lc, rc, bc⟩ := V
  dsimp only at hbox hr hl hW1
  unfold mapV at hr hl
  dsimp only at hr hl
  have HR := Lib.hid hr
  have HH := Lib.hid (fun A c a x W (ha : RdI W A a) => has_any A c a x W ha)
  have HBOX := Lib.hid (fun W (h : Below W1.heap.size W1 W) => hbox.below h)
  have HB1 := Lib.hid hb1
  unfold mapV
  dsimp only
  cases hfr : findRun m.runs q with
  | none =>
    unfold runR at hl
    rw [hfr] at hl
    dsimp only at hl
    have HL := Lib.hid hl
    have HF := Lib.hid (show FeedsS m lifts runs q false by unfold FeedsS; rw [hfr])
    clear hm hf hg hr hl hb1 hbox ok hfr HR HH
    go_enter Try.func32, Try.ntmps32
    rw [hW1] at HL
    go_wp2_with fail
    refine HL.out.mono ?_
    rw [← hW1]
    rintro e w2 ⟨rfl, hb2⟩
    have HB2 := Lib.hid hb2
    clear hb2 HL hW1
    go_wp2_with fail
    go_big_quiet (fail)
    go_wp2_with fail
    go_ret
    have hfin := below_drewN (below_in HB1.out (HB2.out.alloc HB2.out.size (.cells #[.int .i64 0, .int .i64 0, .int .i64 0, .int .i64 0, .int .i64 0, .int .i64 0, .int .i64 0] 37)) HB1.out.size) nq
    first | exact ⟨HF.out, hfin⟩ | exact ⟨false, rfl, HF.out, hfin⟩
  | some x =>
    unfold runR at hl
    rw [hfr] at hl
    dsimp only at hl
    have HL := Lib.hid hl
    have HF := Lib.hid (show ∀ ss, Reached m lifts runs ss → FeedsS m lifts runs q (decide (x.src ∈ ss)) by unfold FeedsS; rw [hfr]; exact fun ss h => ⟨ss, h, rfl⟩)
    clear hm hf hg hr hl hb1 hbox ok hfr
    go_enter Try.func32, Try.ntmps32
    rw [hW1] at HL
    go_wp2_with fail
    refine HL.out.mono ?_
    rw [← hW1]
    rintro e w2 ⟨rfl, hb2⟩
    have HB2 := Lib.hid hb2
    clear hb2 HL hW1
    obtain ⟨W3, hW3⟩ : ∃ W3, W3 = w2.alloc (.cells #[.int .i64 x.id, .int .i64 x.op, .int .i64 x.src, .int .i64 x.dst, .int .i64 x.grade, .int .i64 x.zone, .int .i64 x.len] 37) := ⟨_, rfl⟩
    have hb3 : Below W1.heap.size W1 W3 := by rw [hW3]; exact HB2.out.alloc HB2.out.size _
    have hx : W3.cell? ⟨w2.heap.size, 2, none⟩ = some (.int .i64 x.src) := by rw [hW3]; exact box_cell _ _ _ _ _ rfl
    have HX := Lib.hid (fun W (h : Below W3.heap.size W3 W) => (⟨(HBOX.out W (below_in hb3 h hb3.size)).1, (HBOX.out W (below_in hb3 h hb3.size)).2.1, (HBOX.out W (below_in hb3 h hb3.size)).2.2.1, (HBOX.out W (below_in hb3 h hb3.size)).2.2.2, (h.cell (World.block_lt_of_cell? _ _ hx)).trans hx⟩ : W.cell? ⟨w.heap.size, 0, none⟩ = some (.slice N_ m.nodes.length nc) ∧ W.cell? ⟨w.heap.size, 1, none⟩ = some (.slice L_ m.lifts.length lc) ∧ W.cell? ⟨w.heap.size, 2, none⟩ = some (.slice R_ m.runs.length rc) ∧ W.cell? ⟨w.heap.size, 3, none⟩ = some (.slice B_ m.bases.length bc) ∧ W.cell? ⟨w2.heap.size, 2, none⟩ = some (.int .i64 x.src)))
    have HB3 := Lib.hid hb3
    have hb0 : Hid (Below W3.heap.size W3 W3) := Below.refl _ _
    have hb2 : Hid (Below W3.heap.size W3 W3.drew) := (Below.refl _ _).drew
    clear hb3 hx
    go_wp2_with fail
    rw [← hW3]
    clear hW3
    go_region_held3 (fun W : World => W.cell? ⟨w.heap.size, 0, none⟩ = some (.slice N_ m.nodes.length nc) ∧ W.cell? ⟨w.heap.size, 1, none⟩ = some (.slice L_ m.lifts.length lc) ∧ W.cell? ⟨w.heap.size, 2, none⟩ = some (.slice R_ m.runs.length rc) ∧ W.cell? ⟨w.heap.size, 3, none⟩ = some (.slice B_ m.bases.length bc) ∧ W.cell? ⟨w2.heap.size, 2, none⟩ = some (.int .i64 x.src))
      (first | exact HX.out _ hb0.out | exact HX.out _ hb2.out | exact HX.out _ HB8.out)
      (first | (go_at_call 25; refine (HR.out _ (by first | exact below_in HB3.out hb0.out HB3.out.size | exact below_in HB3.out hb2.out HB3.out.size)).mono ?_; rintro e w8 ⟨A8, c8, ss, rfl, hs8, hr8, hb8⟩; have HB8 := Lib.hid (show Below W3.heap.size W3 w8 from by first | exact hb8 | exact below_in hb2.out hb8 hb2.out.size); have HRS := Lib.hid hr8; have HSS := Lib.hid hs8; clear hb8 hr8 hs8) | (go_at_call 35; refine (HH.out _ _ _ _ _ HRS.out).mono ?_; rintro e w9 ⟨rfl, rfl⟩))
    all_goals
      have HST := Lib.hid (HF.out ss HSS.out)
      obtain ⟨bb, hbb⟩ : ∃ bb, bb = decide (x.src ∈ ss) := ⟨_, rfl⟩
      rw [← hbb] at HST ⊢
      clear hbb
      go_wp2_with fail
      go_ret
      have hfin := below_in HB1.out (below_in HB3.out HB8.out HB3.out.size) HB1.out.size
      first | exact ⟨HST.out, hfin⟩ | exact ⟨bb, rfl, HST.out, hfin⟩
end Go.Proofs.Ytoeiongnjogpeaa
