/- Proved here: alive of chapter 11 returns true. No condition. Written by gen_alive.py. -/
import Derived.Test.YtoeiongnjogpeaaWAlive
namespace Go.Proofs.Ytoeiongnjogpeaa
open Go.RowKit
/-- What stays through the calls of alive. -/
structure AW (w0 W : World) (V : MapA) (H : Nat) : Prop where
  box : mapBox W H V.N V.L V.R V.B V.n V.l V.r V.b sampM
  m : RdM W V sampM
  all : RdI W (some ⟨H + 1, 0, none⟩) [11, 12, 13, 14]
  lifts : RdI W (some ⟨H + 2, 0, none⟩) [1, 2]
  below : Below w0.heap.size w0 W
theorem AW.go {w0 W W' : World} {V : MapA} {H : Nat} (h : AW w0 W V H) (hb : Below W.heap.size W W') : AW w0 W' V H :=
  ⟨h.box.below hb, h.m.below hb, h.all.below hb, h.lifts.below hb, below_in h.below hb h.below.size⟩
theorem aw_start {w0 w1 : World} {V : MapA} (hm : RdM w1 V sampM) (hb : Below w0.heap.size w0 w1) :
    AW w0 (((w1.alloc (.cells #[.slice V.N sampM.nodes.length V.n, .slice V.L sampM.lifts.length V.l, .slice V.R sampM.runs.length V.r, .slice V.B sampM.bases.length V.b] 27)).alloc (.cells #[.int .i64 11, .int .i64 12, .int .i64 13, .int .i64 14] 3)).alloc (.cells #[.int .i64 1, .int .i64 2] 3)) V w1.heap.size := by
  have b1 := box_below w1 (.cells #[.slice V.N sampM.nodes.length V.n, .slice V.L sampM.lifts.length V.l, .slice V.R sampM.runs.length V.r, .slice V.B sampM.bases.length V.b] 27)
  have b2 := box_below (w1.alloc (.cells #[.slice V.N sampM.nodes.length V.n, .slice V.L sampM.lifts.length V.l, .slice V.R sampM.runs.length V.r, .slice V.B sampM.bases.length V.b] 27)) (.cells #[.int .i64 11, .int .i64 12, .int .i64 13, .int .i64 14] 3)
  have b3 := box_below ((w1.alloc (.cells #[.slice V.N sampM.nodes.length V.n, .slice V.L sampM.lifts.length V.l, .slice V.R sampM.runs.length V.r, .slice V.B sampM.bases.length V.b] 27)).alloc (.cells #[.int .i64 11, .int .i64 12, .int .i64 13, .int .i64 14] 3)) (.cells #[.int .i64 1, .int .i64 2] 3)
  refine ⟨((mapBox_new w1 V.N V.L V.R V.B V.n V.l V.r V.b sampM).below b2).below b3, ((hm.below b1).below b2).below b3, RdI.below (rdI_new _ [11, 12, 13, 14] (by decide) _ (by simp)) b3, rdI_new _ [1, 2] (by decide) _ (by simp), below_in hb (below_go (below_go b1 b2) b3) hb.size⟩
theorem aSame (A : Option Addr) (c : Nat) (W : World) (xs : List Int) (h : RdI W A xs) (hn : xs.length ≤ 1000) :
    Calls Try.prog 23 #[.slice A xs.length c, .slice (some ⟨W.heap.size, 0, none⟩) xs.length xs.length] (W.alloc (.cells (xs.map (Value.int .i64)).toArray 3)) fun e w' => e = .returned (.bool true) ∧ Below W.heap.size W w' :=
  (same_any A (some ⟨W.heap.size, 0, none⟩) c xs.length xs xs _ (h.below (box_below _ _)) (rdI_new W xs hn _ rfl)).mono (by
    rintro e w' ⟨rfl, hb⟩
    exact ⟨by simp, below_in (box_below _ _) hb (by simp)⟩)
theorem aWay1 (V : MapA) (G : Option Addr) (c : Nat) (W : World) (hm : RdM W V sampM) (hg : RdI W G [11, 12, 13, 14]) :
    Calls Try.prog 29 #[mapV V sampM, .slice G 4 c, .int .i64 3] W fun e w' => ∃ A' c', e = .returned (.tuple #[.slice A' 1 c', .int .i64 1700, .bool true]) ∧ RdI w' A' [13] ∧ Below W.heap.size W w' :=
  (wway_any V sampM sampOk G c [11, 12, 13, 14] 3 W hm hg).mono (by
    rintro e w' ⟨A', c', st, rfl, hs, hr, hb⟩
    obtain rfl := hs.uniq samp_way1
    exact ⟨A', c', rfl, hr, hb⟩)
theorem aWay2 (V : MapA) (G : Option Addr) (c : Nat) (W : World) (hm : RdM W V sampM) (hg : RdI W G [11, 12, 14]) :
    Calls Try.prog 29 #[mapV V sampM, .slice G 3 c, .int .i64 3] W fun e w' => ∃ A' c', e = .returned (.tuple #[.slice A' 2 c', .int .i64 1700, .bool true]) ∧ RdI w' A' [11, 12] ∧ Below W.heap.size W w' :=
  (wway_any V sampM sampOk G c [11, 12, 14] 3 W hm hg).mono (by
    rintro e w' ⟨A', c', st, rfl, hs, hr, hb⟩
    obtain rfl := hs.uniq samp_way2
    exact ⟨A', c', rfl, hr, hb⟩)
theorem aWay3 (V : MapA) (G : Option Addr) (c : Nat) (W : World) (hm : RdM W V sampM) (hg : RdI W G [11, 12, 13, 14]) :
    Calls Try.prog 29 #[mapV V sampM, .slice G 4 c, .int .i64 4] W fun e w' => ∃ A' c', e = .returned (.tuple #[.slice A' 0 c', .int .i64 0, .bool false]) ∧ RdI w' A' [] ∧ Below W.heap.size W w' :=
  (wway_any V sampM sampOk G c [11, 12, 13, 14] 4 W hm hg).mono (by
    rintro e w' ⟨A', c', st, rfl, hs, hr, hb⟩
    obtain rfl := hs.uniq samp_way3
    exact ⟨A', c', rfl, hr, hb⟩)
theorem aReach1 (V : MapA) (F G : Option Addr) (d c : Nat) (W : World) (hm : RdM W V sampM) (hf : RdI W F [1, 2]) (hg : RdI W G [11, 12, 13, 14]) :
    Calls Try.prog 24 #[mapV V sampM, .slice F 2 d, .slice G 4 c] W fun e w' => ∃ A' c', e = .returned (.slice A' 4 c') ∧ RdI w' A' [1, 2, 3, 4] ∧ Below W.heap.size W w' :=
  (wreach_any V sampM sampOk F G d c [1, 2] [11, 12, 13, 14] W hm hf hg).mono (by
    rintro e w' ⟨A', c', st, rfl, hs, hr, hb⟩
    obtain rfl := RS5.uniq2 hs samp_reach
    exact ⟨A', c', rfl, hr, hb⟩)
theorem aReach2 (V : MapA) (F G : Option Addr) (d c : Nat) (W : World) (hm : RdM W V sampM) (hf : RdI W F [2]) (hg : RdI W G [11, 12, 13, 14]) :
    Calls Try.prog 24 #[mapV V sampM, .slice F 1 d, .slice G 4 c] W fun e w' => ∃ A' c', e = .returned (.slice A' 1 c') ∧ RdI w' A' [1] ∧ Below W.heap.size W w' :=
  (wreach_any V sampM sampOk F G d c [2] [11, 12, 13, 14] W hm hf hg).mono (by
    rintro e w' ⟨A', c', st, rfl, hs, hr, hb⟩
    obtain rfl := RS5.uniq2 hs samp_reach1
    exact ⟨A', c', rfl, hr, hb⟩)
theorem aStr (V : MapA) (F G : Option Addr) (d c : Nat) (W : World) (hm : RdM W V sampM) (hf : RdI W F [1, 2]) (hg : RdI W G [11, 12, 13, 14]) :
    Calls Try.prog 27 #[mapV V sampM, .slice F 2 d, .slice G 4 c] W fun e w' => ∃ A' c', e = .returned (.slice A' 1 c') ∧ RdI w' A' [4] ∧ Below W.heap.size W w' :=
  (wstr_any V sampM sampOk F G d c [1, 2] [11, 12, 13, 14] W hm hf hg).mono (by
    rintro e w' ⟨A', c', st, rfl, hs, hr, hb⟩
    obtain rfl := hs.uniq samp_str
    exact ⟨A', c', rfl, hr, hb⟩)
theorem aHome (V : MapA) (G : Option Addr) (c : Nat) (W : World) (hm : RdM W V sampM) (hg : RdI W G [11, 12, 13, 14]) :
    Calls Try.prog 14 #[mapV V sampM, .slice G 4 c] W fun e w' => ∃ A' c', e = .returned (.slice A' 3 c') ∧ RdI w' A' [1, 2, 3] ∧ Below W.heap.size W w' :=
  (whome_any V sampM sampOk G c [11, 12, 13, 14] W hm hg).mono (by
    rintro e w' ⟨A', c', st, rfl, hs, hr, hb⟩
    obtain rfl := RS5.uniq2 hs samp_home
    exact ⟨A', c', rfl, hr, hb⟩)
theorem aNeeds (V : MapA) (F G : Option Addr) (d c : Nat) (W : World) (hm : RdM W V sampM) (hf : RdI W F [1, 2]) (hg : RdI W G [11, 12]) :
    Calls Try.prog 33 #[mapV V sampM, .slice F 2 d, .slice G 2 c, .int .i64 12] W fun e w' => ∃ A' c', e = .returned (.slice A' 2 c') ∧ RdI w' A' [2, 3] ∧ Below W.heap.size W w' :=
  (wneeds_any V sampM sampOk F G d c [1, 2] [11, 12] 12 W hm hf hg (by decide)).mono (by
    rintro e w' ⟨A', c', st, rfl, hs, hr, hb⟩
    obtain rfl := hs.uniq samp_needs
    exact ⟨A', c', rfl, hr, hb⟩)
theorem aFeeds1 (V : MapA) (F G : Option Addr) (d c : Nat) (W : World) (hm : RdM W V sampM) (hf : RdI W F [1, 2]) (hg : RdI W G [11, 12]) :
    Calls Try.prog 31 #[mapV V sampM, .slice F 2 d, .slice G 2 c, .int .i64 14] W fun e w' => e = .returned (.bool true) ∧ Below W.heap.size W w' :=
  (wfeeds_any V sampM sampOk F G d c [1, 2] [11, 12] 14 W hm hf hg).mono (by
    rintro e w' ⟨b, rfl, hs, hb⟩
    obtain rfl := hs.uniq samp_feeds
    exact ⟨rfl, hb⟩)
theorem aFeeds2 (V : MapA) (F G : Option Addr) (d c : Nat) (W : World) (hm : RdM W V sampM) (hf : RdI W F [1, 2]) (hg : RdI W G [11, 12, 13, 14]) :
    Calls Try.prog 31 #[mapV V sampM, .slice F 2 d, .slice G 4 c, .int .i64 15] W fun e w' => e = .returned (.bool false) ∧ Below W.heap.size W w' :=
  (wfeeds_any V sampM sampOk F G d c [1, 2] [11, 12, 13, 14] 15 W hm hf hg).mono (by
    rintro e w' ⟨b, rfl, hs, hb⟩
    obtain rfl := hs.uniq samp_feeds0
    exact ⟨rfl, hb⟩)
set_option maxRecDepth 100000 in
set_option maxHeartbeats 4000000 in
theorem walive_any (w : World) : Calls Try.prog 21 #[] w fun e w' => e = .returned (.bool true) ∧ Below w.heap.size w w' := by
  have HS := Lib.hid (wsample_any w)
  go_enter Try.func21, Try.ntmps21
  go_wp2_with fail
  refine HS.out.mono ?_
  rintro e w1 ⟨V, rfl, hm, hb⟩
  have HAW := Lib.hid (aw_start hm hb)
  clear hm hb HS
  unfold mapV
  obtain ⟨W2, hW2⟩ : ∃ W2, W2 = ((w1.alloc (.cells #[.slice V.N sampM.nodes.length V.n, .slice V.L sampM.lifts.length V.l, .slice V.R sampM.runs.length V.r, .slice V.B sampM.bases.length V.b] 27)).alloc (.cells #[.int .i64 11, .int .i64 12, .int .i64 13, .int .i64 14] 3)).alloc (.cells #[.int .i64 1, .int .i64 2] 3) := ⟨_, rfl⟩
  rw [← hW2] at HAW
  obtain ⟨H, hH⟩ : ∃ H, H = w1.heap.size := ⟨_, rfl⟩
  rw [← hH] at HAW
  have hc := aWay1 V (some ⟨H + 1, 0, none⟩) 4 W2 HAW.out.m HAW.out.all
  unfold mapV at hc
  have HC := Lib.hid hc
  clear hc
  rw [hW2, hH] at HC
  obtain ⟨N_, L_, R_, B_, nc, lc, rc, bc⟩ := V
  dsimp only at HC hW2
  dsimp only
  go_wp2_with fail
  refine HC.out.mono ?_
  rw [← hW2, ← hH]
  rintro e w3 ⟨A3, c3, rfl, hr3, hb⟩
  replace HAW := Lib.hid (HAW.out.go hb)
  have HR3 := Lib.hid hr3
  clear hb HC hr3 hW2 hH
  have HAWa := Lib.hid (HAW.out.go (box_below w3 (.cells #[.int .i64 11, .int .i64 12, .int .i64 14] 3)))
  have hc := aWay2 ⟨N_, L_, R_, B_, nc, lc, rc, bc⟩ (some ⟨w3.heap.size, 0, none⟩) 3 (w3.alloc (.cells #[.int .i64 11, .int .i64 12, .int .i64 14] 3)) HAWa.out.m (rdI_new w3 [11, 12, 14] (by decide) _ rfl)
  unfold mapV at hc
  have HC := Lib.hid hc
  clear hc
  obtain ⟨q0, q1, q2, q3⟩ := HAW.out.box
  go_wp2_with fail
  refine HC.out.mono ?_
  rintro e w4 ⟨A4, c4, rfl, hr4, hb⟩
  have hbx := below_go (box_below w3 (.cells #[.int .i64 11, .int .i64 12, .int .i64 14] 3)) hb
  replace HR3 := Lib.hid (HR3.out.below hbx)
  replace HAW := Lib.hid (HAW.out.go hbx)
  have HR4 := Lib.hid hr4
  clear hb HC q0 q1 q2 q3 hr4 hbx HAWa
  have hc := aWay3 ⟨N_, L_, R_, B_, nc, lc, rc, bc⟩ (some ⟨H + 1, 0, none⟩) 4 w4 HAW.out.m HAW.out.all
  unfold mapV at hc
  have HC := Lib.hid hc
  clear hc
  obtain ⟨q0, q1, q2, q3⟩ := HAW.out.box
  go_wp2_with fail
  refine HC.out.mono ?_
  rintro e w5 ⟨A5, c5, rfl, hr5, hb⟩
  replace HR3 := Lib.hid (HR3.out.below hb)
  replace HR4 := Lib.hid (HR4.out.below hb)
  replace HAW := Lib.hid (HAW.out.go hb)
  have HR5 := Lib.hid hr5
  clear hb HC q0 q1 q2 q3 hr5
  clear HR5
  have hc := aSame A3 c3 w5 [13] HR3.out (by decide)
  have hc : Calls Try.prog 23 #[.slice A3 1 c3, .slice (some ⟨w5.heap.size, 0, none⟩) 1 1] (w5.alloc (.cells #[.int .i64 13] 3)) (fun e w' => e = .returned (.bool true) ∧ Below w5.heap.size w5 w') := hc
  have HC := Lib.hid hc
  clear hc
  obtain ⟨q0, q1, q2, q3⟩ := HAW.out.box
  go_wp2_with fail
  refine HC.out.mono ?_
  rintro e w6 ⟨rfl, hb⟩
  replace HR4 := Lib.hid (HR4.out.below hb)
  replace HAW := Lib.hid (HAW.out.go hb)
  clear hb HC q0 q1 q2 q3
  clear HR3
  have hc := aSame A4 c4 w6 [11, 12] HR4.out (by decide)
  have hc : Calls Try.prog 23 #[.slice A4 2 c4, .slice (some ⟨w6.heap.size, 0, none⟩) 2 2] (w6.alloc (.cells #[.int .i64 11, .int .i64 12] 3)) (fun e w' => e = .returned (.bool true) ∧ Below w6.heap.size w6 w') := hc
  have HC := Lib.hid hc
  clear hc
  obtain ⟨q0, q1, q2, q3⟩ := HAW.out.box
  go_wp2_with fail
  refine HC.out.mono ?_
  rintro e w7 ⟨rfl, hb⟩
  replace HAW := Lib.hid (HAW.out.go hb)
  clear hb HC q0 q1 q2 q3
  clear HR4
  have hc := aReach1 ⟨N_, L_, R_, B_, nc, lc, rc, bc⟩ (some ⟨H + 2, 0, none⟩) (some ⟨H + 1, 0, none⟩) 2 4 w7 HAW.out.m HAW.out.lifts HAW.out.all
  unfold mapV at hc
  have HC := Lib.hid hc
  clear hc
  obtain ⟨q0, q1, q2, q3⟩ := HAW.out.box
  go_wp2_with fail
  refine HC.out.mono ?_
  rintro e w8 ⟨A8, c8, rfl, hr8, hb⟩
  replace HAW := Lib.hid (HAW.out.go hb)
  have HR8 := Lib.hid hr8
  clear hb HC q0 q1 q2 q3 hr8
  have hc := aSame A8 c8 w8 [1, 2, 3, 4] HR8.out (by decide)
  have hc : Calls Try.prog 23 #[.slice A8 4 c8, .slice (some ⟨w8.heap.size, 0, none⟩) 4 4] (w8.alloc (.cells #[.int .i64 1, .int .i64 2, .int .i64 3, .int .i64 4] 3)) (fun e w' => e = .returned (.bool true) ∧ Below w8.heap.size w8 w') := hc
  have HC := Lib.hid hc
  clear hc
  obtain ⟨q0, q1, q2, q3⟩ := HAW.out.box
  go_wp2_with fail
  refine HC.out.mono ?_
  rintro e w9 ⟨rfl, hb⟩
  replace HAW := Lib.hid (HAW.out.go hb)
  clear hb HC q0 q1 q2 q3
  clear HR8
  have hc := aHome ⟨N_, L_, R_, B_, nc, lc, rc, bc⟩ (some ⟨H + 1, 0, none⟩) 4 w9 HAW.out.m HAW.out.all
  unfold mapV at hc
  have HC := Lib.hid hc
  clear hc
  obtain ⟨q0, q1, q2, q3⟩ := HAW.out.box
  go_wp2_with fail
  refine HC.out.mono ?_
  rintro e w10 ⟨A9, c9, rfl, hr9, hb⟩
  replace HAW := Lib.hid (HAW.out.go hb)
  have HR9 := Lib.hid hr9
  clear hb HC q0 q1 q2 q3 hr9
  have hc := aSame A9 c9 w10 [1, 2, 3] HR9.out (by decide)
  have hc : Calls Try.prog 23 #[.slice A9 3 c9, .slice (some ⟨w10.heap.size, 0, none⟩) 3 3] (w10.alloc (.cells #[.int .i64 1, .int .i64 2, .int .i64 3] 3)) (fun e w' => e = .returned (.bool true) ∧ Below w10.heap.size w10 w') := hc
  have HC := Lib.hid hc
  clear hc
  obtain ⟨q0, q1, q2, q3⟩ := HAW.out.box
  go_wp2_with fail
  refine HC.out.mono ?_
  rintro e w11 ⟨rfl, hb⟩
  replace HAW := Lib.hid (HAW.out.go hb)
  clear hb HC q0 q1 q2 q3
  clear HR9
  have hc := aStr ⟨N_, L_, R_, B_, nc, lc, rc, bc⟩ (some ⟨H + 2, 0, none⟩) (some ⟨H + 1, 0, none⟩) 2 4 w11 HAW.out.m HAW.out.lifts HAW.out.all
  unfold mapV at hc
  have HC := Lib.hid hc
  clear hc
  obtain ⟨q0, q1, q2, q3⟩ := HAW.out.box
  go_wp2_with fail
  refine HC.out.mono ?_
  rintro e w12 ⟨A10, c10, rfl, hr10, hb⟩
  replace HAW := Lib.hid (HAW.out.go hb)
  have HR10 := Lib.hid hr10
  clear hb HC q0 q1 q2 q3 hr10
  have hc := aSame A10 c10 w12 [4] HR10.out (by decide)
  have hc : Calls Try.prog 23 #[.slice A10 1 c10, .slice (some ⟨w12.heap.size, 0, none⟩) 1 1] (w12.alloc (.cells #[.int .i64 4] 3)) (fun e w' => e = .returned (.bool true) ∧ Below w12.heap.size w12 w') := hc
  have HC := Lib.hid hc
  clear hc
  obtain ⟨q0, q1, q2, q3⟩ := HAW.out.box
  go_wp2_with fail
  refine HC.out.mono ?_
  rintro e w13 ⟨rfl, hb⟩
  replace HAW := Lib.hid (HAW.out.go hb)
  clear hb HC q0 q1 q2 q3
  clear HR10
  have HAWa := Lib.hid (HAW.out.go (box_below w13 (.cells #[.int .i64 2] 3)))
  have hc := aReach2 ⟨N_, L_, R_, B_, nc, lc, rc, bc⟩ (some ⟨w13.heap.size, 0, none⟩) (some ⟨H + 1, 0, none⟩) 1 4 (w13.alloc (.cells #[.int .i64 2] 3)) HAWa.out.m (rdI_new w13 [2] (by decide) _ rfl) HAWa.out.all
  unfold mapV at hc
  have HC := Lib.hid hc
  clear hc
  obtain ⟨q0, q1, q2, q3⟩ := HAW.out.box
  go_wp2_with fail
  refine HC.out.mono ?_
  rintro e w14 ⟨A11, c11, rfl, hr11, hb⟩
  have hbx := below_go (box_below w13 (.cells #[.int .i64 2] 3)) hb
  replace HAW := Lib.hid (HAW.out.go hbx)
  have HR11 := Lib.hid hr11
  clear hb HC q0 q1 q2 q3 hr11 hbx HAWa
  have hc := aSame A11 c11 w14 [1] HR11.out (by decide)
  have hc : Calls Try.prog 23 #[.slice A11 1 c11, .slice (some ⟨w14.heap.size, 0, none⟩) 1 1] (w14.alloc (.cells #[.int .i64 1] 3)) (fun e w' => e = .returned (.bool true) ∧ Below w14.heap.size w14 w') := hc
  have HC := Lib.hid hc
  clear hc
  obtain ⟨q0, q1, q2, q3⟩ := HAW.out.box
  go_wp2_with fail
  refine HC.out.mono ?_
  rintro e w15 ⟨rfl, hb⟩
  replace HAW := Lib.hid (HAW.out.go hb)
  clear hb HC q0 q1 q2 q3
  clear HR11
  have HAWa := Lib.hid (HAW.out.go (box_below w15 (.cells #[.int .i64 11, .int .i64 12] 3)))
  have hc := aNeeds ⟨N_, L_, R_, B_, nc, lc, rc, bc⟩ (some ⟨H + 2, 0, none⟩) (some ⟨w15.heap.size, 0, none⟩) 2 2 (w15.alloc (.cells #[.int .i64 11, .int .i64 12] 3)) HAWa.out.m HAWa.out.lifts (rdI_new w15 [11, 12] (by decide) _ rfl)
  unfold mapV at hc
  have HC := Lib.hid hc
  clear hc
  obtain ⟨q0, q1, q2, q3⟩ := HAW.out.box
  go_wp2_with fail
  refine HC.out.mono ?_
  rintro e w16 ⟨A12, c12, rfl, hr12, hb⟩
  have hbx := below_go (box_below w15 (.cells #[.int .i64 11, .int .i64 12] 3)) hb
  replace HAW := Lib.hid (HAW.out.go hbx)
  have HR12 := Lib.hid hr12
  clear hb HC q0 q1 q2 q3 hr12 hbx HAWa
  have hc := aSame A12 c12 w16 [2, 3] HR12.out (by decide)
  have hc : Calls Try.prog 23 #[.slice A12 2 c12, .slice (some ⟨w16.heap.size, 0, none⟩) 2 2] (w16.alloc (.cells #[.int .i64 2, .int .i64 3] 3)) (fun e w' => e = .returned (.bool true) ∧ Below w16.heap.size w16 w') := hc
  have HC := Lib.hid hc
  clear hc
  obtain ⟨q0, q1, q2, q3⟩ := HAW.out.box
  go_wp2_with fail
  refine HC.out.mono ?_
  rintro e w17 ⟨rfl, hb⟩
  replace HAW := Lib.hid (HAW.out.go hb)
  clear hb HC q0 q1 q2 q3
  clear HR12
  have HAWa := Lib.hid (HAW.out.go (box_below w17 (.cells #[.int .i64 11, .int .i64 12] 3)))
  have hc := aFeeds1 ⟨N_, L_, R_, B_, nc, lc, rc, bc⟩ (some ⟨H + 2, 0, none⟩) (some ⟨w17.heap.size, 0, none⟩) 2 2 (w17.alloc (.cells #[.int .i64 11, .int .i64 12] 3)) HAWa.out.m HAWa.out.lifts (rdI_new w17 [11, 12] (by decide) _ rfl)
  unfold mapV at hc
  have HC := Lib.hid hc
  clear hc
  obtain ⟨q0, q1, q2, q3⟩ := HAW.out.box
  go_wp2_with fail
  refine HC.out.mono ?_
  rintro e w18 ⟨rfl, hb⟩
  have hbx := below_go (box_below w17 (.cells #[.int .i64 11, .int .i64 12] 3)) hb
  replace HAW := Lib.hid (HAW.out.go hbx)
  clear hb HC q0 q1 q2 q3 hbx HAWa
  have hc := aFeeds2 ⟨N_, L_, R_, B_, nc, lc, rc, bc⟩ (some ⟨H + 2, 0, none⟩) (some ⟨H + 1, 0, none⟩) 2 4 w18 HAW.out.m HAW.out.lifts HAW.out.all
  unfold mapV at hc
  have HC := Lib.hid hc
  clear hc
  obtain ⟨q0, q1, q2, q3⟩ := HAW.out.box
  go_wp2_with fail
  refine HC.out.mono ?_
  rintro e w19 ⟨rfl, hb⟩
  replace HAW := Lib.hid (HAW.out.go hb)
  clear hb HC q0 q1 q2 q3
  go_wp2_with fail
  go_ret
  exact ⟨rfl, HAW.out.below⟩
end Go.Proofs.Ytoeiongnjogpeaa
