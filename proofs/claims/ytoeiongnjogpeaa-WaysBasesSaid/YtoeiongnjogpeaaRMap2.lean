/- Proved here: lifts, runs of the reference of chapter 10: what no error means. Condition: the map reads. Written by gen_right.py. -/
import Derived.Test.YtoeiongnjogpeaaRMap1
import Derived.Test.YtoeiongnjogpeaaWNeeds
namespace Go.Proofs.Ytoeiongnjogpeaa
open Go.RowKit
def LiftsOk (m : MapM) (k : Nat) : Prop := (∀ j, j < k → ((1 ≤ (liftAt m.lifts j).id ∧ (liftAt m.lifts j).id ≤ 9999) ∧ (1 ≤ (liftAt m.lifts j).op ∧ (liftAt m.lifts j).op ≤ 8) ∧ (10 ≤ (liftAt m.lifts j).len ∧ (liftAt m.lifts j).len ≤ 6000) ∧ (500 ≤ (liftAt m.lifts j).speed ∧ (liftAt m.lifts j).speed ≤ 12000) ∧ (1 ≤ (liftAt m.lifts j).seats ∧ (liftAt m.lifts j).seats ≤ 16) ∧ (5 ≤ (liftAt m.lifts j).space ∧ (liftAt m.lifts j).space ≤ 1000)) ∧ Rises m (liftAt m.lifts j).src (liftAt m.lifts j).dst) ∧ ∀ j, j + 1 < k → (liftAt m.lifts j).id < (liftAt m.lifts (j + 1)).id
set_option maxRecDepth 100000 in
set_option maxHeartbeats 4000000 in
theorem rlifts_any (V : MapA) (m : MapM) (w : World) (hm : RdM w V m) :
    Calls Try.prog 42 #[mapV V m] w (OkPost (LiftsOk m m.lifts.length) w) := by
  obtain ⟨W1, hW1⟩ : ∃ W1, W1 = w.alloc (.cells #[.slice V.N m.nodes.length V.n, .slice V.L m.lifts.length V.l, .slice V.R m.runs.length V.r, .slice V.B m.bases.length V.b] 27) := ⟨_, rfl⟩
  have hb1 : Below w.heap.size w W1 := by rw [hW1]; exact box_below _ _
  have hbox : mapBox W1 w.heap.size V.N V.L V.R V.B V.n V.l V.r V.b m := by rw [hW1]; exact mapBox_new _ _ _ _ _ _ _ _ _ _
  have hr := fun a b W (h : Below W1.heap.size W1 W) => rrises_any V m a b W ((hm.below hb1).below h)
  obtain ⟨N_, L_, R_, B_, nc, lc, rc, bc⟩ := V
  dsimp only at hbox hr hW1
  unfold mapV at hr
  dsimp only at hr
  have hl : RdLift W1 L_ m.lifts := hm.lifts.below hb1
  have hlen := hl.1
  have HL := Lib.hid hl
  have HRS := Lib.hid hr
  have HIN := Lib.hid (fun n lo hi W => rin_any n lo hi W)
  have HBOX := Lib.hid (fun W (h : Below W1.heap.size W1 W) => hbox.below h)
  have HB1 := Lib.hid hb1
  clear hm hb1 hbox hr hl
  unfold mapV
  dsimp only
  go_enter Try.func42, Try.ntmps42
  go_wp2_with fail
  rw [← hW1]
  clear hW1
  go_loopw [3] (fun iv wr => ∃ k : Nat, k ≤ m.lifts.length ∧ iv = .int .i64 k ∧ Hid (LiftsOk m k) ∧ Hid (Below W1.heap.size W1 wr)) (fun iv _ => m.lifts.length - (intOf iv).toNat)
  case atStart => exact ⟨0, Nat.zero_le _, rfl, ⟨fun j h => by omega, fun j h => by omega⟩, Below.refl _ _⟩
  case round =>
    obtain ⟨k, hk, rfl, HI, HB⟩ := hrel
    obtain ⟨q0, q1, q2, q3⟩ := HBOX.out wr HB.out
    by_cases hlt : k < m.lifts.length
    · have i1 : ((k : Int) < (m.lifts.length : Int)) := by omega
      obtain ⟨a, rfl⟩ := HL.out.addr hlt
      obtain ⟨x0, x1, x2, x3, x4, x5, x6, x7⟩ := HL.out.at_ HB.out hlt
      obtain ⟨W0, hW0⟩ : ∃ W0, W0 = wr.alloc (.cells #[.int .i64 (liftAt m.lifts k).id, .int .i64 (liftAt m.lifts k).op, .int .i64 (liftAt m.lifts k).src, .int .i64 (liftAt m.lifts k).dst, .int .i64 (liftAt m.lifts k).len, .int .i64 (liftAt m.lifts k).speed, .int .i64 (liftAt m.lifts k).seats, .int .i64 (liftAt m.lifts k).space] 92) := ⟨_, rfl⟩
      have hb0 : Below W1.heap.size W1 W0 := by rw [hW0]; exact HB.out.alloc HB.out.size _
      have hyc : W0.cell? ⟨wr.heap.size, 0, none⟩ = some (.int .i64 (liftAt m.lifts k).id) ∧ W0.cell? ⟨wr.heap.size, 1, none⟩ = some (.int .i64 (liftAt m.lifts k).op) ∧ W0.cell? ⟨wr.heap.size, 2, none⟩ = some (.int .i64 (liftAt m.lifts k).src) ∧ W0.cell? ⟨wr.heap.size, 3, none⟩ = some (.int .i64 (liftAt m.lifts k).dst) ∧ W0.cell? ⟨wr.heap.size, 4, none⟩ = some (.int .i64 (liftAt m.lifts k).len) ∧ W0.cell? ⟨wr.heap.size, 5, none⟩ = some (.int .i64 (liftAt m.lifts k).speed) ∧ W0.cell? ⟨wr.heap.size, 6, none⟩ = some (.int .i64 (liftAt m.lifts k).seats) ∧ W0.cell? ⟨wr.heap.size, 7, none⟩ = some (.int .i64 (liftAt m.lifts k).space) := by
        rw [hW0]
        exact ⟨box_cell _ _ _ _ _ rfl, box_cell _ _ _ _ _ rfl, box_cell _ _ _ _ _ rfl, box_cell _ _ _ _ _ rfl, box_cell _ _ _ _ _ rfl, box_cell _ _ _ _ _ rfl, box_cell _ _ _ _ _ rfl, box_cell _ _ _ _ _ rfl⟩
      have HY := Lib.hid (show ∀ W, Below W0.heap.size W0 W → W.cell? ⟨wr.heap.size, 0, none⟩ = some (.int .i64 (liftAt m.lifts k).id) ∧ W.cell? ⟨wr.heap.size, 1, none⟩ = some (.int .i64 (liftAt m.lifts k).op) ∧ W.cell? ⟨wr.heap.size, 2, none⟩ = some (.int .i64 (liftAt m.lifts k).src) ∧ W.cell? ⟨wr.heap.size, 3, none⟩ = some (.int .i64 (liftAt m.lifts k).dst) ∧ W.cell? ⟨wr.heap.size, 4, none⟩ = some (.int .i64 (liftAt m.lifts k).len) ∧ W.cell? ⟨wr.heap.size, 5, none⟩ = some (.int .i64 (liftAt m.lifts k).speed) ∧ W.cell? ⟨wr.heap.size, 6, none⟩ = some (.int .i64 (liftAt m.lifts k).seats) ∧ W.cell? ⟨wr.heap.size, 7, none⟩ = some (.int .i64 (liftAt m.lifts k).space) from fun W h => by
        have z := fun {p : Addr} {v : Value} (hc : W0.cell? p = some v) => (h.cell (World.block_lt_of_cell? W0 _ hc)).trans hc
        obtain ⟨y0, y1, y2, y3, y4, y5, y6, y7⟩ := hyc
        exact ⟨z y0, z y1, z y2, z y3, z y4, z y5, z y6, z y7⟩)
      have HB0 := Lib.hid hb0
      have HW0 := Lib.hid hW0
      clear hb0 hyc hW0
      have hcase : (inB (liftAt m.lifts k).id 1 9999 = false) ∨ (inB (liftAt m.lifts k).id 1 9999 = true ∧ inB (liftAt m.lifts k).op 1 8 = false) ∨ (inB (liftAt m.lifts k).id 1 9999 = true ∧ inB (liftAt m.lifts k).op 1 8 = true ∧ inB (liftAt m.lifts k).len 10 6000 = false) ∨ (inB (liftAt m.lifts k).id 1 9999 = true ∧ inB (liftAt m.lifts k).op 1 8 = true ∧ inB (liftAt m.lifts k).len 10 6000 = true ∧ inB (liftAt m.lifts k).speed 500 12000 = false) ∨ (inB (liftAt m.lifts k).id 1 9999 = true ∧ inB (liftAt m.lifts k).op 1 8 = true ∧ inB (liftAt m.lifts k).len 10 6000 = true ∧ inB (liftAt m.lifts k).speed 500 12000 = true ∧ inB (liftAt m.lifts k).seats 1 16 = false) ∨ (inB (liftAt m.lifts k).id 1 9999 = true ∧ inB (liftAt m.lifts k).op 1 8 = true ∧ inB (liftAt m.lifts k).len 10 6000 = true ∧ inB (liftAt m.lifts k).speed 500 12000 = true ∧ inB (liftAt m.lifts k).seats 1 16 = true ∧ inB (liftAt m.lifts k).space 5 1000 = false) ∨ (inB (liftAt m.lifts k).id 1 9999 = true ∧ inB (liftAt m.lifts k).op 1 8 = true ∧ inB (liftAt m.lifts k).len 10 6000 = true ∧ inB (liftAt m.lifts k).speed 500 12000 = true ∧ inB (liftAt m.lifts k).seats 1 16 = true ∧ inB (liftAt m.lifts k).space 5 1000 = true) := by
        cases inB (liftAt m.lifts k).id 1 9999 <;> cases inB (liftAt m.lifts k).op 1 8 <;> cases inB (liftAt m.lifts k).len 10 6000 <;> cases inB (liftAt m.lifts k).speed 500 12000 <;> cases inB (liftAt m.lifts k).seats 1 16 <;> cases inB (liftAt m.lifts k).space 5 1000 <;> simp
      rcases hcase with t0 | ⟨t0, t1⟩ | ⟨t0, t1, t2⟩ | ⟨t0, t1, t2, t3⟩ | ⟨t0, t1, t2, t3, t4⟩ | ⟨t0, t1, t2, t3, t4, t5⟩ | ⟨t0, t1, t2, t3, t4, t5⟩
      · go_wp2_with ((go_at_call 86; refine (HIN.out _ _ _ _).mono ?_; rintro e w1 ⟨rfl, rfl⟩))
        go_ret
        exact ⟨2, rfl, (fun h => by cases h), below_in HB1.out (HB.out.alloc HB.out.size _) HB1.out.size⟩
      · go_wp2_with ((go_at_call 86; refine (HIN.out _ _ _ _).mono ?_; rintro e w1 ⟨rfl, rfl⟩))
        go_ret
        exact ⟨2, rfl, (fun h => by cases h), below_in HB1.out (HB.out.alloc HB.out.size _) HB1.out.size⟩
      · go_wp2_with ((go_at_call 86; refine (HIN.out _ _ _ _).mono ?_; rintro e w1 ⟨rfl, rfl⟩))
        go_ret
        exact ⟨2, rfl, (fun h => by cases h), below_in HB1.out (HB.out.alloc HB.out.size _) HB1.out.size⟩
      · go_wp2_with ((go_at_call 86; refine (HIN.out _ _ _ _).mono ?_; rintro e w1 ⟨rfl, rfl⟩))
        go_ret
        exact ⟨2, rfl, (fun h => by cases h), below_in HB1.out (HB.out.alloc HB.out.size _) HB1.out.size⟩
      · go_wp2_with ((go_at_call 86; refine (HIN.out _ _ _ _).mono ?_; rintro e w1 ⟨rfl, rfl⟩))
        go_ret
        exact ⟨2, rfl, (fun h => by cases h), below_in HB1.out (HB.out.alloc HB.out.size _) HB1.out.size⟩
      · go_wp2_with ((go_at_call 86; refine (HIN.out _ _ _ _).mono ?_; rintro e w1 ⟨rfl, rfl⟩))
        go_ret
        exact ⟨2, rfl, (fun h => by cases h), below_in HB1.out (HB.out.alloc HB.out.size _) HB1.out.size⟩
      · have HT := Lib.hid (show (1 ≤ (liftAt m.lifts k).id ∧ (liftAt m.lifts k).id ≤ 9999) ∧ (1 ≤ (liftAt m.lifts k).op ∧ (liftAt m.lifts k).op ≤ 8) ∧ (10 ≤ (liftAt m.lifts k).len ∧ (liftAt m.lifts k).len ≤ 6000) ∧ (500 ≤ (liftAt m.lifts k).speed ∧ (liftAt m.lifts k).speed ≤ 12000) ∧ (1 ≤ (liftAt m.lifts k).seats ∧ (liftAt m.lifts k).seats ≤ 16) ∧ (5 ≤ (liftAt m.lifts k).space ∧ (liftAt m.lifts k).space ≤ 1000) from ⟨inB_true.1 t0, inB_true.1 t1, inB_true.1 t2, inB_true.1 t3, inB_true.1 t4, inB_true.1 t5⟩)
        go_wp2_with ((go_at_call 86; refine (HIN.out _ _ _ _).mono ?_; rintro e w1 ⟨rfl, rfl⟩))
        rw [← HW0.out]
        clear t0 t1 t2 t3 t4 t5 x0 x1 x2 x3 x4 x5 x6 x7 q0 q1 q2 q3
        have HSTEP := Lib.hid (show (k = 0 ∨ ∃ j, k = j + 1 ∧ (liftAt m.lifts j).id < (liftAt m.lifts (j + 1)).id) → Rises m (liftAt m.lifts k).src (liftAt m.lifts k).dst → LiftsOk m (k + 1) from fun h hri => by
          refine ⟨fun j hj => ?_, fun j hj => ?_⟩
          · rcases Nat.lt_or_ge j k with h1 | h1
            · exact HI.out.1 j h1
            · have : j = k := by omega
              subst this
              exact ⟨HT.out, hri⟩
          · rcases Nat.lt_or_ge (j + 1) k with h1 | h1
            · exact HI.out.2 j h1
            · rcases h with h | ⟨q, hq, hlt⟩
              · omega
              · have : j = q := by omega
                subst this
                exact hlt)
        obtain ⟨q0, q1, q2, q3⟩ := HBOX.out W0 HB0.out
        obtain ⟨y0, y1, y2, y3, y4, y5, y6, y7⟩ := HY.out W0 (Below.refl _ _)
        by_cases hk0 : k = 0
        · have HSTEP2 := Lib.hid (HSTEP.out (.inl hk0))
          have t3 : ¬ ((0 : Int) < (k : Int)) := by omega
          have t3' : ¬ (0 < k) := by omega
          clear hk0
          go_big_quiet (fail)
          have HB5 := Lib.hid (below_drewN HB0.out nq)
          have HW5 := Lib.hid (below_drewN (Below.refl W0.heap.size W0) nq)
          obtain ⟨W5, hW5⟩ : ∃ W5, W5 = W0.drewN nq := ⟨_, rfl⟩
          rw [← hW5] at HB5 HW5 ⊢
          clear q0 q1 q2 q3 y0 y1 y2 y3 y4 y5 y6 y7 hW5 t3 t3'
          have HRS1 := Lib.hid (HRS.out (liftAt m.lifts k).src (liftAt m.lifts k).dst W5 HB5.out)
          obtain ⟨q0, q1, q2, q3⟩ := HBOX.out W5 HB5.out
          obtain ⟨y0, y1, y2, y3, y4, y5, y6, y7⟩ := HY.out W5 HW5.out
          go_wp2_with fail
          refine HRS1.out.mono ?_
          rintro e w6 ⟨kk, rfl, hk6, hb6⟩
          have HK6 := Lib.hid hk6
          have HB6 := Lib.hid (below_go HB5.out hb6)
          have HW6 := Lib.hid (below_go HW5.out hb6)
          clear hk6 hb6 HRS1 q0 q1 q2 q3 y0 y1 y2 y3 y4 y5 y6 y7
          by_cases hkk : kk = 0
          · have t3 : (kk != 0) = false := by simp [hkk]
            have HRI := Lib.hid (HK6.out hkk)
            have HN := Lib.hid (HSTEP2.out HRI.out)
            clear hkk
            obtain ⟨y0, y1, y2, y3, y4, y5, y6, y7⟩ := HY.out w6 HW6.out
            have HC6 := Lib.hid (rcarriers_any (liftAt m.lifts k) HT.out.2.2.1 HT.out.2.2.2.2.2 w6)
            go_wp2_with fail
            refine HC6.out.mono ?_
            rintro e w7 ⟨bb, rfl, hb7⟩
            have HB7 := Lib.hid (below_go HB6.out hb7)
            clear hb7 HC6 y0 y1 y2 y3 y4 y5 y6 y7
            cases bb with
            | false =>
              go_wp2_with fail
              go_ret
              exact ⟨1, rfl, (fun h => by cases h), below_in HB1.out HB7.out HB1.out.size⟩
            | true =>
              go_wp2_with fail
              go_roundw
              case rel => exact ⟨k + 1, by omega, by go_num, HN.out, HB7.out⟩
              case measure => simp [intOf]; omega
          · have t3 : (kk != 0) = true := by simp [hkk]
            have HKK := Lib.hid hkk
            clear hkk
            go_wp2_with fail
            go_ret
            exact ⟨kk, rfl, (fun h => absurd h HKK.out), below_in HB1.out HB6.out HB1.out.size⟩
        · have t3 : (0 : Int) < (k : Int) := by omega
          have t3' : 0 < k := by omega
          have hk1 : k - 1 < m.lifts.length := by omega
          have z := (HL.out.at_ HB0.out hk1).1
          have i2 : (0 : Int) ≤ (k : Int) - 1 := by omega
          have i3 : (k : Int) - 1 < (m.lifts.length : Int) := by omega
          have i4 : ((k : Int) - 1).toNat = k - 1 := by omega
          obtain ⟨p, hp⟩ : ∃ p, p = (liftAt m.lifts (k - 1)).id := ⟨_, rfl⟩
          have HP := Lib.hid hp
          rw [← hp] at z
          clear hp
          by_cases hle : (liftAt m.lifts k).id ≤ p
          · have W_ : IntKind.i64.wrap ((k : Int) - 1) = (k : Int) - 1 := IntWalk.i64_in _ (by omega)
            go_big_quiet (fail)
            clear W_
            go_wp2_with fail
            go_ret
            exact ⟨7, rfl, (fun h => by cases h), below_drewN (below_in HB1.out HB0.out HB1.out.size) _⟩
          · have HSTEP2 := Lib.hid (HSTEP.out (.inr ⟨k - 1, by omega, by
              have h1 := HP.out
              rw [show k - 1 + 1 = k by omega]
              omega⟩))
            have W_ : IntKind.i64.wrap ((k : Int) - 1) = (k : Int) - 1 := IntWalk.i64_in _ (by omega)
            go_big_quiet (fail)
            have HB5 := Lib.hid (below_drewN HB0.out nq)
            have HW5 := Lib.hid (below_drewN (Below.refl W0.heap.size W0) nq)
            obtain ⟨W5, hW5⟩ : ∃ W5, W5 = W0.drewN nq := ⟨_, rfl⟩
            rw [← hW5] at HB5 HW5 ⊢
            clear W_ q0 q1 q2 q3 y0 y1 y2 y3 y4 y5 y6 y7 hW5 z i4
            have HRS1 := Lib.hid (HRS.out (liftAt m.lifts k).src (liftAt m.lifts k).dst W5 HB5.out)
            obtain ⟨q0, q1, q2, q3⟩ := HBOX.out W5 HB5.out
            obtain ⟨y0, y1, y2, y3, y4, y5, y6, y7⟩ := HY.out W5 HW5.out
            go_wp2_with fail
            refine HRS1.out.mono ?_
            rintro e w6 ⟨kk, rfl, hk6, hb6⟩
            have HK6 := Lib.hid hk6
            have HB6 := Lib.hid (below_go HB5.out hb6)
            have HW6 := Lib.hid (below_go HW5.out hb6)
            clear hk6 hb6 HRS1 q0 q1 q2 q3 y0 y1 y2 y3 y4 y5 y6 y7
            by_cases hkk : kk = 0
            · have t3 : (kk != 0) = false := by simp [hkk]
              have HRI := Lib.hid (HK6.out hkk)
              have HN := Lib.hid (HSTEP2.out HRI.out)
              clear hkk
              obtain ⟨y0, y1, y2, y3, y4, y5, y6, y7⟩ := HY.out w6 HW6.out
              have HC6 := Lib.hid (rcarriers_any (liftAt m.lifts k) HT.out.2.2.1 HT.out.2.2.2.2.2 w6)
              go_wp2_with fail
              refine HC6.out.mono ?_
              rintro e w7 ⟨bb, rfl, hb7⟩
              have HB7 := Lib.hid (below_go HB6.out hb7)
              clear hb7 HC6 y0 y1 y2 y3 y4 y5 y6 y7
              cases bb with
              | false =>
                go_wp2_with fail
                go_ret
                exact ⟨1, rfl, (fun h => by cases h), below_in HB1.out HB7.out HB1.out.size⟩
              | true =>
                go_wp2_with fail
                go_roundw
                case rel => exact ⟨k + 1, by omega, by go_num, HN.out, HB7.out⟩
                case measure => simp [intOf]; omega
            · have t3 : (kk != 0) = true := by simp [hkk]
              have HKK := Lib.hid hkk
              clear hkk
              go_wp2_with fail
              go_ret
              exact ⟨kk, rfl, (fun h => absurd h HKK.out), below_in HB1.out HB6.out HB1.out.size⟩
    · have hkl : k = m.lifts.length := by omega
      subst hkl
      have i1 : ¬ ((m.lifts.length : Int) < (m.lifts.length : Int)) := by omega
      go_wp2_with fail
      go_ret
      exact ⟨0, rfl, fun _ => HI.out, below_in HB1.out HB.out HB1.out.size⟩
def RunsOk (m : MapM) (k : Nat) : Prop := (∀ j, j < k → ((1 ≤ (runAt m.runs j).id ∧ (runAt m.runs j).id ≤ 9999) ∧ (1 ≤ (runAt m.runs j).op ∧ (runAt m.runs j).op ≤ 8) ∧ (1 ≤ (runAt m.runs j).grade ∧ (runAt m.runs j).grade ≤ 4) ∧ (1 ≤ (runAt m.runs j).zone ∧ (runAt m.runs j).zone ≤ 32) ∧ (10 ≤ (runAt m.runs j).len ∧ (runAt m.runs j).len ≤ 20000)) ∧ Rises m (runAt m.runs j).dst (runAt m.runs j).src) ∧ ∀ j, j + 1 < k → (runAt m.runs j).id < (runAt m.runs (j + 1)).id
set_option maxRecDepth 100000 in
set_option maxHeartbeats 4000000 in
theorem rruns_any (V : MapA) (m : MapM) (w : World) (hm : RdM w V m) :
    Calls Try.prog 43 #[mapV V m] w (OkPost (RunsOk m m.runs.length) w) := by
  obtain ⟨W1, hW1⟩ : ∃ W1, W1 = w.alloc (.cells #[.slice V.N m.nodes.length V.n, .slice V.L m.lifts.length V.l, .slice V.R m.runs.length V.r, .slice V.B m.bases.length V.b] 27) := ⟨_, rfl⟩
  have hb1 : Below w.heap.size w W1 := by rw [hW1]; exact box_below _ _
  have hbox : mapBox W1 w.heap.size V.N V.L V.R V.B V.n V.l V.r V.b m := by rw [hW1]; exact mapBox_new _ _ _ _ _ _ _ _ _ _
  have hr := fun a b W (h : Below W1.heap.size W1 W) => rrises_any V m a b W ((hm.below hb1).below h)
  obtain ⟨N_, L_, R_, B_, nc, lc, rc, bc⟩ := V
  dsimp only at hbox hr hW1
  unfold mapV at hr
  dsimp only at hr
  have hl : RdRun W1 R_ m.runs := hm.runs.below hb1
  have hlen := hl.1
  have HL := Lib.hid hl
  have HRS := Lib.hid hr
  have HIN := Lib.hid (fun n lo hi W => rin_any n lo hi W)
  have HBOX := Lib.hid (fun W (h : Below W1.heap.size W1 W) => hbox.below h)
  have HB1 := Lib.hid hb1
  clear hm hb1 hbox hr hl
  unfold mapV
  dsimp only
  go_enter Try.func43, Try.ntmps43
  go_wp2_with fail
  rw [← hW1]
  clear hW1
  go_loopw [3] (fun iv wr => ∃ k : Nat, k ≤ m.runs.length ∧ iv = .int .i64 k ∧ Hid (RunsOk m k) ∧ Hid (Below W1.heap.size W1 wr)) (fun iv _ => m.runs.length - (intOf iv).toNat)
  case atStart => exact ⟨0, Nat.zero_le _, rfl, ⟨fun j h => by omega, fun j h => by omega⟩, Below.refl _ _⟩
  case round =>
    obtain ⟨k, hk, rfl, HI, HB⟩ := hrel
    obtain ⟨q0, q1, q2, q3⟩ := HBOX.out wr HB.out
    by_cases hlt : k < m.runs.length
    · have i1 : ((k : Int) < (m.runs.length : Int)) := by omega
      obtain ⟨a, rfl⟩ := HL.out.addr hlt
      obtain ⟨x0, x1, x2, x3, x4, x5, x6⟩ := HL.out.at_ HB.out hlt
      obtain ⟨W0, hW0⟩ : ∃ W0, W0 = wr.alloc (.cells #[.int .i64 (runAt m.runs k).id, .int .i64 (runAt m.runs k).op, .int .i64 (runAt m.runs k).src, .int .i64 (runAt m.runs k).dst, .int .i64 (runAt m.runs k).grade, .int .i64 (runAt m.runs k).zone, .int .i64 (runAt m.runs k).len] 37) := ⟨_, rfl⟩
      have hb0 : Below W1.heap.size W1 W0 := by rw [hW0]; exact HB.out.alloc HB.out.size _
      have hyc : W0.cell? ⟨wr.heap.size, 0, none⟩ = some (.int .i64 (runAt m.runs k).id) ∧ W0.cell? ⟨wr.heap.size, 1, none⟩ = some (.int .i64 (runAt m.runs k).op) ∧ W0.cell? ⟨wr.heap.size, 2, none⟩ = some (.int .i64 (runAt m.runs k).src) ∧ W0.cell? ⟨wr.heap.size, 3, none⟩ = some (.int .i64 (runAt m.runs k).dst) ∧ W0.cell? ⟨wr.heap.size, 4, none⟩ = some (.int .i64 (runAt m.runs k).grade) ∧ W0.cell? ⟨wr.heap.size, 5, none⟩ = some (.int .i64 (runAt m.runs k).zone) ∧ W0.cell? ⟨wr.heap.size, 6, none⟩ = some (.int .i64 (runAt m.runs k).len) := by
        rw [hW0]
        exact ⟨box_cell _ _ _ _ _ rfl, box_cell _ _ _ _ _ rfl, box_cell _ _ _ _ _ rfl, box_cell _ _ _ _ _ rfl, box_cell _ _ _ _ _ rfl, box_cell _ _ _ _ _ rfl, box_cell _ _ _ _ _ rfl⟩
      have HY := Lib.hid (show ∀ W, Below W0.heap.size W0 W → W.cell? ⟨wr.heap.size, 0, none⟩ = some (.int .i64 (runAt m.runs k).id) ∧ W.cell? ⟨wr.heap.size, 1, none⟩ = some (.int .i64 (runAt m.runs k).op) ∧ W.cell? ⟨wr.heap.size, 2, none⟩ = some (.int .i64 (runAt m.runs k).src) ∧ W.cell? ⟨wr.heap.size, 3, none⟩ = some (.int .i64 (runAt m.runs k).dst) ∧ W.cell? ⟨wr.heap.size, 4, none⟩ = some (.int .i64 (runAt m.runs k).grade) ∧ W.cell? ⟨wr.heap.size, 5, none⟩ = some (.int .i64 (runAt m.runs k).zone) ∧ W.cell? ⟨wr.heap.size, 6, none⟩ = some (.int .i64 (runAt m.runs k).len) from fun W h => by
        have z := fun {p : Addr} {v : Value} (hc : W0.cell? p = some v) => (h.cell (World.block_lt_of_cell? W0 _ hc)).trans hc
        obtain ⟨y0, y1, y2, y3, y4, y5, y6⟩ := hyc
        exact ⟨z y0, z y1, z y2, z y3, z y4, z y5, z y6⟩)
      have HB0 := Lib.hid hb0
      have HW0 := Lib.hid hW0
      clear hb0 hyc hW0
      have hcase : (inB (runAt m.runs k).id 1 9999 = false) ∨ (inB (runAt m.runs k).id 1 9999 = true ∧ inB (runAt m.runs k).op 1 8 = false) ∨ (inB (runAt m.runs k).id 1 9999 = true ∧ inB (runAt m.runs k).op 1 8 = true ∧ inB (runAt m.runs k).grade 1 4 = false) ∨ (inB (runAt m.runs k).id 1 9999 = true ∧ inB (runAt m.runs k).op 1 8 = true ∧ inB (runAt m.runs k).grade 1 4 = true ∧ inB (runAt m.runs k).zone 1 32 = false) ∨ (inB (runAt m.runs k).id 1 9999 = true ∧ inB (runAt m.runs k).op 1 8 = true ∧ inB (runAt m.runs k).grade 1 4 = true ∧ inB (runAt m.runs k).zone 1 32 = true ∧ inB (runAt m.runs k).len 10 20000 = false) ∨ (inB (runAt m.runs k).id 1 9999 = true ∧ inB (runAt m.runs k).op 1 8 = true ∧ inB (runAt m.runs k).grade 1 4 = true ∧ inB (runAt m.runs k).zone 1 32 = true ∧ inB (runAt m.runs k).len 10 20000 = true) := by
        cases inB (runAt m.runs k).id 1 9999 <;> cases inB (runAt m.runs k).op 1 8 <;> cases inB (runAt m.runs k).grade 1 4 <;> cases inB (runAt m.runs k).zone 1 32 <;> cases inB (runAt m.runs k).len 10 20000 <;> simp
      rcases hcase with t0 | ⟨t0, t1⟩ | ⟨t0, t1, t2⟩ | ⟨t0, t1, t2, t3⟩ | ⟨t0, t1, t2, t3, t4⟩ | ⟨t0, t1, t2, t3, t4⟩
      · go_wp2_with ((go_at_call 86; refine (HIN.out _ _ _ _).mono ?_; rintro e w1 ⟨rfl, rfl⟩))
        go_ret
        exact ⟨2, rfl, (fun h => by cases h), below_in HB1.out (HB.out.alloc HB.out.size _) HB1.out.size⟩
      · go_wp2_with ((go_at_call 86; refine (HIN.out _ _ _ _).mono ?_; rintro e w1 ⟨rfl, rfl⟩))
        go_ret
        exact ⟨2, rfl, (fun h => by cases h), below_in HB1.out (HB.out.alloc HB.out.size _) HB1.out.size⟩
      · go_wp2_with ((go_at_call 86; refine (HIN.out _ _ _ _).mono ?_; rintro e w1 ⟨rfl, rfl⟩))
        go_ret
        exact ⟨2, rfl, (fun h => by cases h), below_in HB1.out (HB.out.alloc HB.out.size _) HB1.out.size⟩
      · go_wp2_with ((go_at_call 86; refine (HIN.out _ _ _ _).mono ?_; rintro e w1 ⟨rfl, rfl⟩))
        go_ret
        exact ⟨2, rfl, (fun h => by cases h), below_in HB1.out (HB.out.alloc HB.out.size _) HB1.out.size⟩
      · go_wp2_with ((go_at_call 86; refine (HIN.out _ _ _ _).mono ?_; rintro e w1 ⟨rfl, rfl⟩))
        go_ret
        exact ⟨2, rfl, (fun h => by cases h), below_in HB1.out (HB.out.alloc HB.out.size _) HB1.out.size⟩
      · have HT := Lib.hid (show (1 ≤ (runAt m.runs k).id ∧ (runAt m.runs k).id ≤ 9999) ∧ (1 ≤ (runAt m.runs k).op ∧ (runAt m.runs k).op ≤ 8) ∧ (1 ≤ (runAt m.runs k).grade ∧ (runAt m.runs k).grade ≤ 4) ∧ (1 ≤ (runAt m.runs k).zone ∧ (runAt m.runs k).zone ≤ 32) ∧ (10 ≤ (runAt m.runs k).len ∧ (runAt m.runs k).len ≤ 20000) from ⟨inB_true.1 t0, inB_true.1 t1, inB_true.1 t2, inB_true.1 t3, inB_true.1 t4⟩)
        go_wp2_with ((go_at_call 86; refine (HIN.out _ _ _ _).mono ?_; rintro e w1 ⟨rfl, rfl⟩))
        rw [← HW0.out]
        clear t0 t1 t2 t3 t4 x0 x1 x2 x3 x4 x5 x6 q0 q1 q2 q3
        have HSTEP := Lib.hid (show (k = 0 ∨ ∃ j, k = j + 1 ∧ (runAt m.runs j).id < (runAt m.runs (j + 1)).id) → Rises m (runAt m.runs k).dst (runAt m.runs k).src → RunsOk m (k + 1) from fun h hri => by
          refine ⟨fun j hj => ?_, fun j hj => ?_⟩
          · rcases Nat.lt_or_ge j k with h1 | h1
            · exact HI.out.1 j h1
            · have : j = k := by omega
              subst this
              exact ⟨HT.out, hri⟩
          · rcases Nat.lt_or_ge (j + 1) k with h1 | h1
            · exact HI.out.2 j h1
            · rcases h with h | ⟨q, hq, hlt⟩
              · omega
              · have : j = q := by omega
                subst this
                exact hlt)
        obtain ⟨q0, q1, q2, q3⟩ := HBOX.out W0 HB0.out
        obtain ⟨y0, y1, y2, y3, y4, y5, y6⟩ := HY.out W0 (Below.refl _ _)
        by_cases hk0 : k = 0
        · have HSTEP2 := Lib.hid (HSTEP.out (.inl hk0))
          have t3 : ¬ ((0 : Int) < (k : Int)) := by omega
          have t3' : ¬ (0 < k) := by omega
          clear hk0
          go_big_quiet (fail)
          have HB5 := Lib.hid (below_drewN HB0.out nq)
          have HW5 := Lib.hid (below_drewN (Below.refl W0.heap.size W0) nq)
          obtain ⟨W5, hW5⟩ : ∃ W5, W5 = W0.drewN nq := ⟨_, rfl⟩
          rw [← hW5] at HB5 HW5 ⊢
          clear q0 q1 q2 q3 y0 y1 y2 y3 y4 y5 y6 hW5 t3 t3'
          have HRS1 := Lib.hid (HRS.out (runAt m.runs k).dst (runAt m.runs k).src W5 HB5.out)
          obtain ⟨q0, q1, q2, q3⟩ := HBOX.out W5 HB5.out
          obtain ⟨y0, y1, y2, y3, y4, y5, y6⟩ := HY.out W5 HW5.out
          go_wp2_with fail
          refine HRS1.out.mono ?_
          rintro e w6 ⟨kk, rfl, hk6, hb6⟩
          have HK6 := Lib.hid hk6
          have HB6 := Lib.hid (below_go HB5.out hb6)
          have HW6 := Lib.hid (below_go HW5.out hb6)
          clear hk6 hb6 HRS1 q0 q1 q2 q3 y0 y1 y2 y3 y4 y5 y6
          by_cases hkk : kk = 0
          · have t3 : (kk != 0) = false := by simp [hkk]
            have HRI := Lib.hid (HK6.out hkk)
            have HN := Lib.hid (HSTEP2.out HRI.out)
            clear hkk
            go_wp2_with fail
            go_roundw
            case rel => exact ⟨k + 1, by omega, by go_num, HN.out, HB6.out⟩
            case measure => simp [intOf]; omega
          · have t3 : (kk != 0) = true := by simp [hkk]
            have HKK := Lib.hid hkk
            clear hkk
            go_wp2_with fail
            go_ret
            exact ⟨kk, rfl, (fun h => absurd h HKK.out), below_in HB1.out HB6.out HB1.out.size⟩
        · have t3 : (0 : Int) < (k : Int) := by omega
          have t3' : 0 < k := by omega
          have hk1 : k - 1 < m.runs.length := by omega
          have z := (HL.out.at_ HB0.out hk1).1
          have i2 : (0 : Int) ≤ (k : Int) - 1 := by omega
          have i3 : (k : Int) - 1 < (m.runs.length : Int) := by omega
          have i4 : ((k : Int) - 1).toNat = k - 1 := by omega
          obtain ⟨p, hp⟩ : ∃ p, p = (runAt m.runs (k - 1)).id := ⟨_, rfl⟩
          have HP := Lib.hid hp
          rw [← hp] at z
          clear hp
          by_cases hle : (runAt m.runs k).id ≤ p
          · have W_ : IntKind.i64.wrap ((k : Int) - 1) = (k : Int) - 1 := IntWalk.i64_in _ (by omega)
            go_big_quiet (fail)
            clear W_
            go_wp2_with fail
            go_ret
            exact ⟨7, rfl, (fun h => by cases h), below_drewN (below_in HB1.out HB0.out HB1.out.size) _⟩
          · have HSTEP2 := Lib.hid (HSTEP.out (.inr ⟨k - 1, by omega, by
              have h1 := HP.out
              rw [show k - 1 + 1 = k by omega]
              omega⟩))
            have W_ : IntKind.i64.wrap ((k : Int) - 1) = (k : Int) - 1 := IntWalk.i64_in _ (by omega)
            go_big_quiet (fail)
            have HB5 := Lib.hid (below_drewN HB0.out nq)
            have HW5 := Lib.hid (below_drewN (Below.refl W0.heap.size W0) nq)
            obtain ⟨W5, hW5⟩ : ∃ W5, W5 = W0.drewN nq := ⟨_, rfl⟩
            rw [← hW5] at HB5 HW5 ⊢
            clear W_ q0 q1 q2 q3 y0 y1 y2 y3 y4 y5 y6 hW5 z i4
            have HRS1 := Lib.hid (HRS.out (runAt m.runs k).dst (runAt m.runs k).src W5 HB5.out)
            obtain ⟨q0, q1, q2, q3⟩ := HBOX.out W5 HB5.out
            obtain ⟨y0, y1, y2, y3, y4, y5, y6⟩ := HY.out W5 HW5.out
            go_wp2_with fail
            refine HRS1.out.mono ?_
            rintro e w6 ⟨kk, rfl, hk6, hb6⟩
            have HK6 := Lib.hid hk6
            have HB6 := Lib.hid (below_go HB5.out hb6)
            have HW6 := Lib.hid (below_go HW5.out hb6)
            clear hk6 hb6 HRS1 q0 q1 q2 q3 y0 y1 y2 y3 y4 y5 y6
            by_cases hkk : kk = 0
            · have t3 : (kk != 0) = false := by simp [hkk]
              have HRI := Lib.hid (HK6.out hkk)
              have HN := Lib.hid (HSTEP2.out HRI.out)
              clear hkk
              go_wp2_with fail
              go_roundw
              case rel => exact ⟨k + 1, by omega, by go_num, HN.out, HB6.out⟩
              case measure => simp [intOf]; omega
            · have t3 : (kk != 0) = true := by simp [hkk]
              have HKK := Lib.hid hkk
              clear hkk
              go_wp2_with fail
              go_ret
              exact ⟨kk, rfl, (fun h => absurd h HKK.out), below_in HB1.out HB6.out HB1.out.size⟩
    · have hkl : k = m.runs.length := by omega
      subst hkl
      have i1 : ¬ ((m.runs.length : Int) < (m.runs.length : Int)) := by omega
      go_wp2_with fail
      go_ret
      exact ⟨0, rfl, fun _ => HI.out, below_in HB1.out HB.out HB1.out.size⟩
end Go.Proofs.Ytoeiongnjogpeaa
