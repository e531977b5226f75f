/- Proved here: the law GraphTurned returns true for all arguments that read as edges and numbers, and changes nothing that was there before. -/
import Derived.Test.YtmnkgcnhmkggkaaTurnTh
import Derived.IntWalk
namespace Go.Proofs.Ytmnkgcnhmkggkaa
open Go.RowKit
set_option maxRecDepth 100000 in
set_option maxHeartbeats 4000000 in
theorem graphTurned_walk (A : Option Addr) (c : Nat) (l : List Edge) (p q : Int) (w : World) (hl : RdE w A l) (hp : (Lit.int .i64 p).wf = true) (hq : (Lit.int .i64 q).wf = true) :
    Calls Try.prog 9 #[.slice A l.length c, .int .i64 p, .int .i64 q] w fun e w' => e = .returned (.bool true) ∧ Below w.heap.size w w' := by
  have hm := hl.1
  have HPQ : Hid ((-9223372036854775808 ≤ p ∧ p ≤ 9223372036854775807) ∧ (-9223372036854775808 ≤ q ∧ q ≤ 9223372036854775807)) := by
    simp [Lit.wf, IntKind.min, IntKind.max, IntKind.signed, IntKind.bits] at hp hq
    exact ⟨by omega, by omega⟩
  have HA := Lib.hid (alive_any w)
  have HL := Lib.hid hl
  clear hl hp hq
  go_enter Try.func9, Try.ntmps9
  go_wp2_with fail
  refine HA.out.mono ?_
  rintro e w1 ⟨rfl, hb⟩
  have HB := Lib.hid hb
  clear hb HA
  have HC := Lib.hid (lright_any A c l w1 (HL.out.below HB.out))
  go_wp2_with fail
  refine HC.out.mono ?_
  rintro e w2 ⟨rfl, hb⟩
  replace HB := Lib.hid (below_in HB.out hb HB.out.size)
  clear hb HC
  by_cases hr0 : errL l = 0
  · have hr := errL_zero hr0
    have hr1 : (errL l == 0) = true := by simp [hr0]
    rw [hr1]
    have HR := Lib.hid hr
    have h200 := hr.len
    clear hr hr0 hr1
    go_wp2_with fail
    go_loopg [7, 8] l.length (fun g ov iv wr => ∃ (i : Nat), g = l.length - i ∧ i ≤ l.length ∧ iv = .int .i64 (i : Int) ∧ Hid (OwnS 42 4 wr w.heap.size ov i (((l.take i).map turnE).flatMap edgeCells)) ∧ Hid (Below w.heap.size w wr))
    case atStart => exact ⟨0, by omega, by omega, rfl, OwnS.nil _ _ _ _, HB.out⟩
    case round =>
      clear HB
      obtain ⟨i, hg, hi, rfl, HO, HB⟩ := hrel
      by_cases hlt : i < l.length
      · have i1 : ((i : Int) < (l.length : Int)) := by omega
        obtain ⟨a, rfl⟩ := HL.out.addr hlt
        obtain ⟨A0, c0, rfl, hc1, hc2⟩ := HO.out.slice
        obtain ⟨z0, z1, z2, z3⟩ := HL.out.at_ HB.out hlt
        have HB' := Lib.hid HB.out.size
        have hby : Below w.heap.size w (wr.alloc (.cells #[.int .i64 (edAt l i).id, .int .i64 (edAt l i).dst, .int .i64 (edAt l i).src, .int .i64 (edAt l i).cost] 42)).drew := (HB.out.alloc HB.out.size _).drew
        have hy := HL.out.at_ hby hlt
        have HY := Lib.hid hy
        have HG := Lib.hid (fun (W : World) (hg : (wr.alloc (.cells #[.int .i64 (edAt l i).id, .int .i64 (edAt l i).dst, .int .i64 (edAt l i).src, .int .i64 (edAt l i).cost] 42)).drew.grownBy W (Value.slice A0 i c0).ownBlock) =>
          (hby.grown hg (by have := HB'.out; simp [World.drew]; omega) (fun k hk => (HO.out.block hk).1) : Below w.heap.size w W))
        have HG2 := Lib.hid (fun (W : World) (hg : (wr.alloc (.cells #[.int .i64 (edAt l i).id, .int .i64 (edAt l i).dst, .int .i64 (edAt l i).src, .int .i64 (edAt l i).cost] 42)).drew.grownBy W (Value.slice A0 i c0).ownBlock) => HL.out.at_ (HG.out W hg) hlt)
        clear hy hby
        go_wp2_with fail
        go_region_held3 (fun W : World => W.cell? (a.add (i * 4)) = some (.int .i64 (edAt l i).id) ∧
            W.cell? ⟨(a.add (i * 4)).block, (a.add (i * 4)).off + 1, none⟩ = some (.int .i64 (edAt l i).src) ∧
            W.cell? ⟨(a.add (i * 4)).block, (a.add (i * 4)).off + 2, none⟩ = some (.int .i64 (edAt l i).dst) ∧
            W.cell? ⟨(a.add (i * 4)).block, (a.add (i * 4)).off + 3, none⟩ = some (.int .i64 (edAt l i).cost)) (first | exact ⟨z0, z1, z2, z3⟩ | exact HY.out | exact HG2.out _ hg2)
          (first | (refine OwnS.step_append rfl _ _ 22 rfl 42 (.agg #[.int .i64 0, .int .i64 0, .int .i64 0, .int .i64 0]) 4 32 Try.underlying22 (by kernel_rfl) rfl (by omega) (by omega) w.heap.size i _ (((l.take i).map turnE).flatMap edgeCells) rfl (HO.out.drew.alloc _) ⟨wr.heap.size, 0, none⟩ 1 (edgeCells (turnE (edAt l i))) rfl rfl (box_cells _ #[.int .i64 (edAt l i).id, .int .i64 (edAt l i).dst, .int .i64 (edAt l i).src, .int .i64 (edAt l i).cost] 42 _ rfl) (by simp [edgeCells, Value.oneCell']) (by omega) (by have := HB'.out; simp; omega) ?_; intro v' w2 ho2 hg2 _))
        obtain ⟨A2, c2, rfl, hc3, hc4⟩ := ho2.slice
        have ho3 : OwnS 42 4 w2 w.heap.size (.slice A2 (i + 1) c2) (i + 1) (((l.take (i + 1)).map turnE).flatMap edgeCells) := by
          rw [List.take_add_one, edAt_eq hlt]
          simpa using ho2
        have HO3 := Lib.hid ho3
        have HB3 := Lib.hid (HG.out _ hg2)
        clear ho2 ho3 hg2
        go_wp2_with fail
        cases gk with
        | zero => omega
        | succ g1 =>
          go_roundg g1
          case measure => omega
          case rel => exact ⟨i + 1, by omega, by omega, by go_num, HO3.out, HB3.out⟩
      · have hil : i = l.length := by omega
        subst hil
        rw [List.take_length] at HO
        have i1 : ¬ ((l.length : Int) < (l.length : Int)) := by omega
        obtain ⟨T, ct, rfl, hc1, hc2⟩ := HO.out.slice
        obtain ⟨t, ht⟩ : ∃ t, t = l.map turnE := ⟨_, rfl⟩
        have HTL := Lib.hid (show t.length = l.length by rw [ht]; exact List.length_map _)
        have HRT := Lib.hid (show Right t by rw [ht]; exact HR.out.turn)
        have HTT := Lib.hid ht
        have HT := Lib.hid (show RdE wr T t from by
          have h := HO.out
          rw [← ht, ← HTL.out] at h
          exact h.rdE (by have := HTL.out; omega))
        clear HO ht hc1 hc2 hg hi
        have HC := Lib.hid (short_any A c l p q _ (HL.out.below HB.out) HR.out)
        go_wp2_with fail
        refine HC.out.mono ?_
        rintro e w4 ⟨v4, ids, n, ok, rfl, hs, _, ho, hb⟩
        replace HB := Lib.hid (below_in HB.out hb HB.out.size)
        replace HT := Lib.hid (HT.out.below hb)
        have HS := Lib.hid hs
        obtain ⟨A4, c4, rfl, _, _⟩ := ho.slice
        clear hb ho hs HC
        have hC := short_any T ct t q p w4 HT.out HRT.out
        rw [HTL.out] at hC
        have HC := Lib.hid hC
        clear hC
        go_wp2_with fail
        refine HC.out.mono ?_
        rintro e w5 ⟨v5, ids5, m, is, rfl, hs, _, ho, hb⟩
        replace HB := Lib.hid (below_in HB.out hb HB.out.size)
        replace HT := Lib.hid (HT.out.below hb)
        obtain ⟨rfl, rfl⟩ := HS.out.turn (by rw [← HTT.out]; exact hs)
        obtain ⟨A5, c5, rfl, _, _⟩ := ho.slice
        clear hb ho hs HC HS
        have t1 : (n != n) = false := by simp
        have t2 : (ok != ok) = false := by simp
        have HC := Lib.hid (show Calls Try.prog 18 #[.slice A l.length c, .slice (some ⟨w5.heap.size, 0, none⟩) 2 2] (w5.alloc (.cells #[.int .i64 p, .int .i64 q] 3)) (fun e w' => ∃ A' c' ss, e = .returned (.slice A' ss.length c') ∧ RdI w' A' ss ∧ RS5 (l.map turnE) [p, q] ss ∧ Below w5.heap.size w5 w') from
          back_at A c l HR.out [p, q] (by simpa using HPQ.out) (by simp) w5 (HL.out.below HB.out))
        go_wp2_with fail
        refine HC.out.mono ?_
        rintro e w6 ⟨A6, c6, s6, rfl, hr6, hs6, hb⟩
        replace HB := Lib.hid (below_in HB.out hb HB.out.size)
        replace HT := Lib.hid (HT.out.below hb)
        have HX := Lib.hid hr6
        have HS6 := Lib.hid hs6
        clear hb hr6 hs6 HC
        have hC := show Calls Try.prog 16 #[.slice T t.length ct, .slice (some ⟨w6.heap.size, 0, none⟩) 3 3] (w6.alloc (.cells #[.int .i64 q, .int .i64 p, .int .i64 q] 3)) (fun e w' => ∃ A' c' ss, e = .returned (.slice A' ss.length c') ∧ RdI w' A' ss ∧ RS5 t [q, p, q] ss ∧ Below w6.heap.size w6 w') from
          reach_at T ct t HRT.out [q, p, q] (by have := HPQ.out; simp; omega) (by simp) w6 HT.out
        rw [HTL.out] at hC
        have HC := Lib.hid hC
        clear hC
        go_wp2_with fail
        refine HC.out.mono ?_
        rintro e w7 ⟨A7, c7, s7, rfl, hr7, hs7, hb⟩
        have hs7' := (hs7.congr (g := [p, q]) (fun x => by simp only [List.mem_cons, List.not_mem_nil, or_false]; omega))
        rw [HTT.out] at hs7'
        obtain rfl := hs7'.uniq HS6.out
        replace HB := Lib.hid (below_in HB.out hb HB.out.size)
        replace HX := Lib.hid (HX.out.below hb)
        have HY := Lib.hid hr7
        clear hb hr7 hs7 hs7' HC HT HRT
        have HC := Lib.hid (sameT_any A6 A7 c6 c7 s7 w7 HX.out HY.out)
        go_wp2_with fail
        refine HC.out.mono ?_
        rintro e w8 ⟨rfl, hb⟩
        replace HB := Lib.hid (below_in HB.out hb HB.out.size)
        clear hb HC HX HY HS6 HTT HTL
        have HC := Lib.hid (show Calls Try.prog 16 #[.slice A l.length c, .slice (some ⟨w8.heap.size, 0, none⟩) 1 1] (w8.alloc (.cells #[.int .i64 p] 3)) (fun e w' => ∃ A' c' ss, e = .returned (.slice A' ss.length c') ∧ RdI w' A' ss ∧ RS5 l [p] ss ∧ Below w8.heap.size w8 w') from
          reach_at A c l HR.out [p] (by simpa using HPQ.out.1) (by simp) w8 (HL.out.below HB.out))
        go_wp2_with fail
        refine HC.out.mono ?_
        rintro e w9 ⟨Ax, cx, x, rfl, hrx, hsx, hb⟩
        replace HB := Lib.hid (below_in HB.out hb HB.out.size)
        have HX := Lib.hid hrx
        have HSX := Lib.hid hsx
        clear hb hrx hsx HC
        have HC := Lib.hid (show Calls Try.prog 16 #[.slice A l.length c, .slice (some ⟨w9.heap.size, 0, none⟩) 1 1] (w9.alloc (.cells #[.int .i64 q] 3)) (fun e w' => ∃ A' c' ss, e = .returned (.slice A' ss.length c') ∧ RdI w' A' ss ∧ RS5 l [q] ss ∧ Below w9.heap.size w9 w') from
          reach_at A c l HR.out [q] (by simpa using HPQ.out.2) (by simp) w9 (HL.out.below HB.out))
        go_wp2_with fail
        refine HC.out.mono ?_
        rintro e w10 ⟨Ay, cy, y, rfl, hry, hsy, hb⟩
        replace HB := Lib.hid (below_in HB.out hb HB.out.size)
        replace HX := Lib.hid (HX.out.below hb)
        have HY := Lib.hid hry
        have HSY := Lib.hid hsy
        clear hb hry hsy HC
        have HC := Lib.hid (show Calls Try.prog 16 #[.slice A l.length c, .slice (some ⟨w10.heap.size, 0, none⟩) 2 2] (w10.alloc (.cells #[.int .i64 p, .int .i64 q] 3)) (fun e w' => ∃ A' c' ss, e = .returned (.slice A' ss.length c') ∧ RdI w' A' ss ∧ RS5 l [p, q] ss ∧ Below w10.heap.size w10 w') from
          reach_at A c l HR.out [p, q] (by simpa using HPQ.out) (by simp) w10 (HL.out.below HB.out))
        go_wp2_with fail
        refine HC.out.mono ?_
        rintro e w11 ⟨Az, cz, z, rfl, hrz, hsz, hb⟩
        replace HB := Lib.hid (below_in HB.out hb HB.out.size)
        replace HX := Lib.hid (HX.out.below hb)
        replace HY := Lib.hid (HY.out.below hb)
        have HZ := Lib.hid hrz
        obtain ⟨htw, hsub⟩ := RS5.two HSX.out HSY.out hsz
        have HTW := Lib.hid htw
        have HSUB := Lib.hid hsub
        have HSOR := Lib.hid hsz.sorted
        have hzl := hrz.1
        have hxl := HX.out.1
        clear hb hrz hsz htw hsub HC HSX HSY
        go_wp2_with fail
        go_loopw [18] (fun i wr => ∃ k : Nat, k ≤ z.length ∧ i = .int .i64 k ∧ Hid (Below w11.heap.size w11 wr)) (fun i _ => z.length - (intOf i).toNat)
        case atStart => exact ⟨0, Nat.zero_le _, rfl, Below.refl _ _⟩
        case round =>
          obtain ⟨k, hk, rfl, HBQ⟩ := hrel
          by_cases hlt : k < z.length
          · have i1 : ((k : Int) < (z.length : Int)) := by omega
            obtain ⟨az, rfl⟩ := HZ.out.addr hlt
            have c0 := HZ.out.at_ HBQ.out hlt
            have HHX := Lib.hid (fun n => (has_any Ax cx x (numAt z k) (wr.drewN n) (HX.out.below (below_drewN HBQ.out n))).mono fun e w' ⟨h1, h2⟩ => (⟨h1, h2.symm⟩ : e = _ ∧ w' = wr.drewN n))
            have HHY := Lib.hid (fun n => (has_any Ay cy y (numAt z k) (wr.drewN n) (HY.out.below (below_drewN HBQ.out n))).mono fun e w' ⟨h1, h2⟩ => (⟨h1, h2.symm⟩ : e = _ ∧ w' = wr.drewN n))
            have hmem := HTW.out _ (numAt_mem hlt)
            rcases Nat.eq_zero_or_pos k with hk0 | hk0
            · have t0 : decide (0 < k) = false := by simp; omega
              have t3 : decide ((0 : Int) < (k : Int)) = false := by simp; omega
              have HK0 := Lib.hid hk0
              clear hk0
              by_cases hx : numAt z k ∈ x
              · rw [decide_eq_true hx] at HHX
                clear hx hmem HHY
                go_wp2_with fail
                go_big_quiet ((go_at_call 24; refine Calls.quiet_of_same (HHX.out _)))
                go_wp2_with fail
                go_roundw
                case rel => exact ⟨k + 1, by omega, by go_num, below_drewN HBQ.out _⟩
                case measure => simp [intOf]; omega
              · have hy : numAt z k ∈ y := hmem.elim (fun h => absurd h hx) id
                rw [decide_eq_false hx] at HHX
                rw [decide_eq_true hy] at HHY
                clear hx hy hmem
                go_wp2_with fail
                go_big_quiet ((first | (go_at_call_of 24 (Value.slice Ax x.length cx); refine Calls.quiet_of_same (HHX.out _)) | (go_at_call 24; refine Calls.quiet_of_same (HHY.out _))))
                go_wp2_with fail
                go_roundw
                case rel => exact ⟨k + 1, by omega, by go_num, below_drewN HBQ.out _⟩
                case measure => simp [intOf]; omega
            · obtain ⟨j, hj⟩ : ∃ j, k = j + 1 := ⟨k - 1, by omega⟩
              have d0 := HZ.out.at_ HBQ.out (show j < z.length by omega)
              have hst : numAt z j < numAt z k := by
                rw [hj] at hlt ⊢
                exact sorted_step HSOR.out hlt
              have t5 : decide (numAt z k ≤ numAt z j) = false := by simp; omega
              have W1_ := Lib.hid (show IntKind.i64.wrap ((k : Int) - 1) = (j : Int) by rw [show (k : Int) - 1 = (j : Int) by omega]; exact IntWalk.i64_in _ (by omega))
              have t6 : (0 : Int) < (k : Int) := by omega
              have t7 : (j : Int) < (z.length : Int) := by omega
              have HJ := Lib.hid hj
              clear hj hst
              by_cases hx : numAt z k ∈ x
              · rw [decide_eq_true hx] at HHX
                clear hx hmem HHY
                go_wp2_with fail
                have w1_ := W1_.out
                go_big_quiet ((go_at_call 24; refine Calls.quiet_of_same (HHX.out _)))
                clear w1_
                go_wp2_with fail
                go_roundw
                case rel => exact ⟨k + 1, by omega, by go_num, below_drewN HBQ.out _⟩
                case measure => simp [intOf]; omega
              · have hy : numAt z k ∈ y := hmem.elim (fun h => absurd h hx) id
                rw [decide_eq_false hx] at HHX
                rw [decide_eq_true hy] at HHY
                clear hx hy hmem
                go_wp2_with fail
                have w1_ := W1_.out
                go_big_quiet ((first | (go_at_call_of 24 (Value.slice Ax x.length cx); refine Calls.quiet_of_same (HHX.out _)) | (go_at_call 24; refine Calls.quiet_of_same (HHY.out _))))
                clear w1_
                go_wp2_with fail
                go_roundw
                case rel => exact ⟨k + 1, by omega, by go_num, below_drewN HBQ.out _⟩
                case measure => simp [intOf]; omega
          · have i1 : ¬ ((k : Int) < (z.length : Int)) := by omega
            have HB0 := Lib.hid (show Below w.heap.size w wr from below_in HB.out HBQ.out HB.out.size)
            have HX0 := Lib.hid (HX.out.below HBQ.out)
            have HZ0 := Lib.hid (HZ.out.below HBQ.out)
            go_wp2_with fail
            go_loop [19] (fun i => ∃ k : Nat, k ≤ x.length ∧ i = .int .i64 k) (fun i => x.length - (intOf i).toNat)
            case atStart => exact ⟨0, Nat.zero_le _, rfl⟩
            case round =>
              clear hk i1
              obtain ⟨k2, hk2, rfl⟩ := hrel
              by_cases hlt2 : k2 < x.length
              · have i3 : ((k2 : Int) < (x.length : Int)) := by omega
                obtain ⟨ax, rfl⟩ := HX0.out.addr hlt2
                have c0 := HX0.out.at_ (Below.refl _ _) hlt2
                have HC := Lib.hid (has_any Az cz z (numAt x k2) wr HZ0.out)
                rw [decide_eq_true (HSUB.out _ (numAt_mem hlt2))] at HC
                go_wp2_with fail
                refine HC.out.mono ?_
                rintro e w12 ⟨rfl, rfl⟩
                go_wp2_with fail
                go_round
                case rel => exact ⟨k2 + 1, by omega, by go_num⟩
                case measure => simp [intOf]; omega
              · have i3 : ¬ ((k2 : Int) < (x.length : Int)) := by omega
                go_wp2_with fail
                go_ret
                exact ⟨rfl, HB0.out⟩
  · have hr1 : (errL l == 0) = false := by simp [hr0]
    rw [hr1]
    go_wp2_with fail
    go_ret
    exact ⟨rfl, HB.out⟩
end Go.Proofs.Ytmnkgcnhmkggkaa
