/- Proved here: alive of chapter 11 returns true. No condition. -/
import Derived.Test.YtoeiongnjogpeaaWSamp
import Derived.Test.YtoeiongnjogpeaaMapAll
namespace Go.Proofs.Ytoeiongnjogpeaa
open Go.RowKit
set_option maxRecDepth 100000 in
set_option maxHeartbeats 4000000 in
theorem slift_any (i f t : Int) (w : World) : Calls Try.prog 102 #[.int .i64 i, .int .i64 f, .int .i64 t] w fun e w' => e = .returned (.agg #[.int .i64 i, .int .i64 1, .int .i64 f, .int .i64 t, .int .i64 1000, .int .i64 5000, .int .i64 4, .int .i64 20]) ∧ Below w.heap.size w w' := by
  go_enter Try.func102, Try.ntmps102
  go_wp2_with fail
  refine bodyPost_ret (v := .agg #[.int .i64 i, .int .i64 1, .int .i64 f, .int .i64 t, .int .i64 1000, .int .i64 5000, .int .i64 4, .int .i64 20]) (by simp [results, go_sem]) rfl ⟨rfl, box_below _ _⟩
set_option maxRecDepth 100000 in
set_option maxHeartbeats 4000000 in
theorem srun_any (i f t n : Int) (w : World) : Calls Try.prog 103 #[.int .i64 i, .int .i64 f, .int .i64 t, .int .i64 n] w fun e w' => e = .returned (.agg #[.int .i64 i, .int .i64 1, .int .i64 f, .int .i64 t, .int .i64 1, .int .i64 1, .int .i64 n]) ∧ Below w.heap.size w w' := by
  go_enter Try.func103, Try.ntmps103
  go_wp2_with fail
  refine bodyPost_ret (v := .agg #[.int .i64 i, .int .i64 1, .int .i64 f, .int .i64 t, .int .i64 1, .int .i64 1, .int .i64 n]) (by simp [results, go_sem]) rfl ⟨rfl, box_below _ _⟩
def SampPost (w : World) (e : Ending) (w' : World) : Prop := ∃ V, e = .returned (mapV V sampM) ∧ RdM w' V sampM ∧ Below w.heap.size w w'
set_option maxRecDepth 100000 in
set_option maxHeartbeats 4000000 in
theorem wsample_any (w : World) : Calls Try.prog 66 #[] w (SampPost w) := by
  have HL := Lib.hid (fun i f t W => slift_any i f t W)
  have HR := Lib.hid (fun i f t n W => srun_any i f t n W)
  obtain ⟨W1, hW1⟩ : ∃ W1, W1 = (w.alloc (.cells #[.slice none 0 0, .slice none 0 0, .slice none 0 0, .slice none 0 0] 27)).alloc (.cells #[.int .i64 1, .int .i64 1000, .int .i64 2, .int .i64 1500, .int .i64 3, .int .i64 2000, .int .i64 4, .int .i64 1400] 68) := ⟨_, rfl⟩
  have HB1 := Lib.hid (show Below w.heap.size w W1 by rw [hW1]; exact ((Below.refl _ _).alloc (Nat.le_refl _) _).alloc (by simp) _)
  have HZ1 := Lib.hid (show W1.heap[w.heap.size]? = some (.cells #[.slice none 0 0, .slice none 0 0, .slice none 0 0, .slice none 0 0] 27 (0, 0)) by
    rw [hW1]
    exact ((box_below _ _).block _ (by simp)).trans (heap_alloc_new _ _))
  have HN1 := Lib.hid (show RdNode W1 (some ⟨w.heap.size + 1, 0, none⟩) sampM.nodes by
    rw [hW1]
    exact rdNode_new _ sampM.nodes (by decide) _ (by simp) _ rfl _)
  have h1 := HL.out 1 1 2 W1
  rw [hW1] at h1
  have H1 := Lib.hid h1
  clear h1
  go_enter Try.func66, Try.ntmps66
  go_wp2_with fail
  refine H1.out.mono ?_
  rw [← hW1]
  rintro e w2 ⟨rfl, hb⟩
  have HB2 := Lib.hid hb
  clear hb H1 hW1
  have H1 := Lib.hid (HL.out 2 2 3 w2)
  go_wp2_with fail
  refine H1.out.mono ?_
  rintro e w3 ⟨rfl, hb⟩
  have HB3 := Lib.hid (below_go HB2.out hb)
  clear hb H1 HB2
  obtain ⟨W4, hW4⟩ : ∃ W4, W4 = w3.alloc (.cells #[.int .i64 1, .int .i64 1, .int .i64 1, .int .i64 2, .int .i64 1000, .int .i64 5000, .int .i64 4, .int .i64 20, .int .i64 2, .int .i64 1, .int .i64 2, .int .i64 3, .int .i64 1000, .int .i64 5000, .int .i64 4, .int .i64 20] 92) := ⟨_, rfl⟩
  have HB4 := Lib.hid (show Below W1.heap.size W1 W4 by rw [hW4]; exact HB3.out.alloc HB3.out.size _)
  have HL4 := Lib.hid (show RdLift W4 (some ⟨w3.heap.size, 0, none⟩) sampM.lifts by
    rw [hW4]
    exact rdLift_new _ sampM.lifts (by decide) _ rfl _ rfl _)
  have hW4c := Lib.hid hW4
  have HS3 := Lib.hid HB3.out.size
  have h1 := HR.out 11 3 2 900 W4
  rw [hW4] at h1
  have H1 := Lib.hid h1
  clear h1
  go_wp2_with fail
  refine H1.out.mono ?_
  rw [← hW4]
  rintro e w5 ⟨rfl, hb⟩
  have HB5 := Lib.hid hb
  clear hb H1 hW4 HB3
  have H1 := Lib.hid (HR.out 12 2 1 800 w5)
  go_wp2_with fail
  refine H1.out.mono ?_
  rintro e w6 ⟨rfl, hb⟩
  have HB6 := Lib.hid (below_go HB5.out hb)
  clear hb H1 HB5
  have H1 := Lib.hid (HR.out 13 3 1 1700 w6)
  go_wp2_with fail
  refine H1.out.mono ?_
  rintro e w7 ⟨rfl, hb⟩
  have HB7 := Lib.hid (below_go HB6.out hb)
  clear hb H1 HB6
  have H1 := Lib.hid (HR.out 14 3 4 700 w7)
  go_wp2_with fail
  refine H1.out.mono ?_
  rintro e w8 ⟨rfl, hb⟩
  have HB8 := Lib.hid (below_go HB7.out hb)
  clear hb H1 HB7
  obtain ⟨W9, hW9⟩ : ∃ W9, W9 = w8.alloc (.cells #[.int .i64 11, .int .i64 1, .int .i64 3, .int .i64 2, .int .i64 1, .int .i64 1, .int .i64 900, .int .i64 12, .int .i64 1, .int .i64 2, .int .i64 1, .int .i64 1, .int .i64 1, .int .i64 800, .int .i64 13, .int .i64 1, .int .i64 3, .int .i64 1, .int .i64 1, .int .i64 1, .int .i64 1700, .int .i64 14, .int .i64 1, .int .i64 3, .int .i64 4, .int .i64 1, .int .i64 1, .int .i64 700] 37) := ⟨_, rfl⟩
  have HR9 := Lib.hid (show RdRun W9 (some ⟨w8.heap.size, 0, none⟩) sampM.runs by
    rw [hW9]
    exact rdRun_new _ sampM.runs (by decide) _ rfl _ rfl _)
  obtain ⟨W10, hW10⟩ : ∃ W10, W10 = W9.alloc (.cells #[.int .i64 1] 3) := ⟨_, rfl⟩
  have HI10 := Lib.hid (show RdI W10 (some ⟨w8.heap.size + 1, 0, none⟩) sampM.bases by
    rw [hW10]
    exact rdI_new _ [1] (by decide) _ (by rw [hW9]; simp))
  have HB9 := Lib.hid (show Below W4.heap.size W4 W9 by rw [hW9]; exact HB8.out.alloc HB8.out.size _)
  have HB10 := Lib.hid (show Below W9.heap.size W9 W10 by rw [hW10]; exact box_below _ _)
  have HBA := Lib.hid (show Below W1.heap.size W1 W10 from below_go HB4.out (below_go HB9.out HB10.out))
  have HZA := Lib.hid ((HBA.out.block _ (Array.getElem?_eq_some_iff.1 HZ1.out).1).trans HZ1.out)
  obtain ⟨hth, hbz, hq, hoth⟩ := setcs (w := w) (T := 27) (H := w.heap.size) #[.slice (some ⟨w.heap.size + 1, 0, none⟩) 4 4, .slice (some ⟨w3.heap.size, 0, none⟩) 2 2, .slice (some ⟨w8.heap.size, 0, none⟩) 4 4, .slice (some ⟨w8.heap.size + 1, 0, none⟩) 1 1] (below_in HB1.out HBA.out HB1.out.size) (Nat.le_refl _) HZA.out (by simp)
  obtain ⟨W5, hW5⟩ : ∃ W5, W5 = W10.setCells w.heap.size 0 (#[.slice (some ⟨w.heap.size + 1, 0, none⟩) 4 4, .slice (some ⟨w3.heap.size, 0, none⟩) 2 2, .slice (some ⟨w8.heap.size, 0, none⟩) 4 4, .slice (some ⟨w8.heap.size + 1, 0, none⟩) 1 1] : Array Value).toList := ⟨_, rfl⟩
  rw [← hW5] at hbz hq hoth
  have keep : ∀ (p : Addr) (x : Value), p.block ≠ w.heap.size → W10.cell? p = some x → W5.cell? p = some x := fun p x hp hc =>
    (World.cell?_of_block (hoth p.block hp (World.block_lt_of_cell? _ _ hc))).trans hc
  have hs1 := HB1.out.size
  have hs9 := HB9.out.size
  have hs4 := HB4.out.size
  have hs8 := HB8.out.size
  have HM := Lib.hid (show RdM W5 ⟨some ⟨w.heap.size + 1, 0, none⟩, some ⟨w3.heap.size, 0, none⟩, some ⟨w8.heap.size, 0, none⟩, some ⟨w8.heap.size + 1, 0, none⟩, 4, 2, 4, 1⟩ sampM from by
    have hs3 := HS3.out
    have hs0 := (Array.getElem?_eq_some_iff.1 HZ1.out).1
    have d9 : w8.heap.size + 1 = W9.heap.size := by rw [hW9]; simp
    have d4 : w3.heap.size + 1 = W4.heap.size := by rw [hW4c.out]; simp
    have nN := HN1.out.below HBA.out
    have nL := HL4.out.below (below_go HB9.out HB10.out)
    have nR := HR9.out.below HB10.out
    have nB := HI10.out
    refine ⟨⟨nN.1, fun i hi => ?_⟩, ⟨nL.1, fun i hi => ?_⟩, ⟨nR.1, fun i hi => ?_⟩, ⟨nB.1, fun i hi => ?_⟩⟩
    · obtain ⟨a, ha, h0, h1⟩ := nN.2 i hi
      cases ha
      rw [Addr.add_lit] at h0 h1
      refine ⟨_, rfl, ?_⟩
      rw [Addr.add_lit]
      exact ⟨keep _ _ (by dsimp only; omega) h0, keep _ _ (by dsimp only; omega) h1⟩
    · obtain ⟨a, ha, h0, h1, h2, h3, h4, h5, h6, h7⟩ := nL.2 i hi
      cases ha
      rw [Addr.add_lit] at h0 h1 h2 h3 h4 h5 h6 h7
      refine ⟨_, rfl, ?_⟩
      rw [Addr.add_lit]
      exact ⟨keep _ _ (by dsimp only; omega) h0, keep _ _ (by dsimp only; omega) h1, keep _ _ (by dsimp only; omega) h2, keep _ _ (by dsimp only; omega) h3, keep _ _ (by dsimp only; omega) h4, keep _ _ (by dsimp only; omega) h5, keep _ _ (by dsimp only; omega) h6, keep _ _ (by dsimp only; omega) h7⟩
    · obtain ⟨a, ha, h0, h1, h2, h3, h4, h5, h6⟩ := nR.2 i hi
      cases ha
      rw [Addr.add_lit] at h0 h1 h2 h3 h4 h5 h6
      refine ⟨_, rfl, ?_⟩
      rw [Addr.add_lit]
      exact ⟨keep _ _ (by dsimp only; omega) h0, keep _ _ (by dsimp only; omega) h1, keep _ _ (by dsimp only; omega) h2, keep _ _ (by dsimp only; omega) h3, keep _ _ (by dsimp only; omega) h4, keep _ _ (by dsimp only; omega) h5, keep _ _ (by dsimp only; omega) h6⟩
    · obtain ⟨a, ha, h0⟩ := nB.2 i hi
      cases ha
      rw [Addr.add_lit] at h0
      refine ⟨_, rfl, ?_⟩
      rw [Addr.add_lit]
      exact keep _ _ (by dsimp only; omega) h0)
  have HBZ := Lib.hid hbz
  have HW5 := Lib.hid hW5
  have HW9 := Lib.hid hW9
  have HW10 := Lib.hid hW10
  have q0 := hq 0 _ rfl
  have q1 := hq 1 _ rfl
  have q2 := hq 2 _ rfl
  have q3 := hq 3 _ rfl
  clear hbz hq hoth hW5 hW9 hW10 keep hs1 hs9 hs4 hs8 HB9 HB10 HBA HZA
  go_wp2_with (rw [← HW9.out, ← HW10.out]; refine wpList_store_mid rfl 27 _ _ rfl w.heap.size 0 #[.slice (some ⟨w.heap.size + 1, 0, none⟩) 4 4, .slice (some ⟨w3.heap.size, 0, none⟩) 2 2, .slice (some ⟨w8.heap.size, 0, none⟩) 4 4, .slice (some ⟨w8.heap.size + 1, 0, none⟩) 1 1] rfl rfl hth (by kernel_rfl) (by simp [Value.oneCell']) ?_; rw [← HW5.out])
  refine bodyPost_ret (v := .agg #[.slice (some ⟨w.heap.size + 1, 0, none⟩) 4 4, .slice (some ⟨w3.heap.size, 0, none⟩) 2 2, .slice (some ⟨w8.heap.size, 0, none⟩) 4 4, .slice (some ⟨w8.heap.size + 1, 0, none⟩) 1 1]) (by simp [results, go_sem, q0, q1, q2, q3]) rfl ⟨_, rfl, HM.out, HBZ.out⟩
end Go.Proofs.Ytoeiongnjogpeaa
