/- Proved here: the law FlowCut returns true for all arguments that read as edges, and changes nothing that was there before. -/
import Derived.Test.YtambnjhopijkfaaAlive
import Derived.Test.YtambnjhopijkfaaCutTh
import Derived.Test.YtambnjhopijkfaaGReach
import Derived.BigQuiet
namespace Go.Proofs.Ytambnjhopijkfaa
open Go.RowKit
set_option maxRecDepth 100000 in
set_option maxHeartbeats 2000000 in
theorem flowCut_walk (A : Option Addr) (c : Nat) (l : List Edge) (s t : Int) (w : World) (hl : RdE w A l) (hsw : (Lit.int .i64 s).wf = true) :
    Calls Try.prog 10 #[.slice A l.length c, .int .i64 s, .int .i64 t] w fun e w' => e = .returned (.bool true) ∧ Below w.heap.size w w' := by
  have hm := hl.1
  have HA := Lib.hid (alive_any w)
  have HF := Lib.hid (fun W (h : Below w.heap.size w W) => few_any A c l W (hl.below h))
  have HL := Lib.hid hl
  have HSW : Hid (-9223372036854775808 ≤ s ∧ s ≤ 9223372036854775807) := by
    simp [Lit.wf, IntKind.min, IntKind.max, IntKind.signed, IntKind.bits] at hsw
    show _ ∧ _
    omega
  clear hl hsw
  go_enter Try.func10, Try.ntmps10
  go_wp2_with fail
  refine HA.out.mono ?_
  rintro e w1 ⟨rfl, hb1⟩
  have HB1 := Lib.hid hb1
  clear hb1
  go_wp2_with fail
  refine (HF.out _ HB1.out).mono ?_
  rintro e w2 ⟨rfl, hb2⟩
  have HB2 := Lib.hid (HB1.out.trans (hb2.mono HB1.out.size))
  clear hb2
  by_cases hfew : fewB l = true
  · have hr : Right l := by
      simp only [fewB, Bool.and_eq_true] at hfew
      exact rightB_iff.1 hfew.2
    rw [hfew]
    have h200 := hr.len
    have HRR := Lib.hid hr
    clear hr
    by_cases hst : s = t
    · have he : (s == t) = true := by simpa using hst
      go_wp2_with fail
      go_ret
      exact ⟨rfl, HB2.out⟩
    · have he : (s == t) = false := by simpa using hst
      have HST := Lib.hid hst
      clear hst
      obtain ⟨f0, S, hM⟩ := exists_max A c l s t w HL.out HRR.out HST.out
      have HM := Lib.hid hM
      have hC : cutL l s t = cutTo l (inS S) l.length := cutL_of hM
      have hup := cutTo_up l (inS S) l.length
      have hmem := cutTo_mem l (inS S) l.length
      have hsum := cutTo_sum l (inS S) l.length (Nat.le_refl _)
      have hclen : (cutTo l (inS S) l.length).length ≤ l.length := cutOf_le l (inS S) l.length
      rw [← hC] at hup hmem hsum hclen
      rw [List.take_length, ← hM.tight, ← maxV_of hM] at hsum
      have hshut := cut_shut hM
      obtain ⟨C, hCC⟩ : ∃ C, C = cutL l s t := ⟨_, rfl⟩
      rw [← hCC] at hup hmem hsum hclen hshut
      have HUP := Lib.hid hup
      have HMEM := Lib.hid hmem
      have HSUM := Lib.hid hsum
      have HSHUT := Lib.hid hshut
      have HCT := Lib.hid (cut_any A c l s t w2 (HL.out.below HB2.out) HRR.out)
      rw [← hCC] at HCT
      clear hM hC hup hmem hsum hshut hCC
      go_wp2_with fail
      refine HCT.out.mono ?_
      rintro e w3 ⟨v3, rfl, ho3, hb3⟩
      obtain ⟨A3, c3, rfl, _, _⟩ := ho3.slice
      have HC3 := Lib.hid ho3.rdI
      have HB3 := Lib.hid (HB2.out.trans (hb3.mono HB2.out.size))
      clear ho3 hb3 HCT
      go_wp2_with fail
      go_loopw [8, 9, 10] (fun sv ov iv wr => ∃ i : Nat, i ≤ C.length ∧ iv = .int .i64 (i : Int) ∧ sv = .int .i64 (((C.take i).map (costAt l)).sum) ∧ Hid (OwnS 3 1 wr w3.heap.size ov i (((C.take i).map (idAt l)).map (Value.int .i64))) ∧ Hid (Below w3.heap.size w3 wr)) (fun _ _ iv _ => C.length - (intOf iv).toNat)
      case atStart => exact ⟨0, by omega, rfl, rfl, OwnS.nil _ _ _ _, Below.refl _ _⟩
      case round =>
        obtain ⟨i, hi, rfl, rfl, HO, HBW⟩ := hrel
        obtain ⟨A4, c4, rfl, _, _⟩ := HO.out.slice
        by_cases hlt : i < C.length
        · have i1 : ((i : Int) < (C.length : Int)) := by omega
          obtain ⟨q, hq, hql, _⟩ := HMEM.out (numAt C i) (List.mem_of_getElem? (numAt_eq hlt))
          obtain ⟨a3, rfl⟩ := HC3.out.addr hlt
          have z0 := HC3.out.at_ HBW.out hlt
          rw [hq] at z0
          have i2 : ((q : Int) < (l.length : Int)) := by omega
          have i3 : decide ((q : Int) < 0) = false := by rw [decide_eq_false_iff_not]; omega
          have i4 : decide ((l.length : Int) ≤ (q : Int)) = false := by rw [decide_eq_false_iff_not]; omega
          have i4n : decide (l.length ≤ q) = false := by rw [decide_eq_false_iff_not]; omega
          have hbw : Below w.heap.size w wr := below_in HB3.out HBW.out HB3.out.size
          obtain ⟨a, rfl⟩ := HL.out.addr hql
          obtain ⟨x0, x1, x2, x3⟩ := HL.out.at_ hbw hql
          have htk : C.take (i + 1) = C.take i ++ [(q : Int)] := by rw [List.take_add_one, numAt_eq hlt, hq]; rfl
          have hsb := sum_bound (costAt l) (C.take i) (fun x hx => by
            obtain ⟨k, rfl, hk, _⟩ := HMEM.out x (List.mem_of_mem_take hx)
            simpa [costAt] using right_cost HRR.out hk)
          have hcl : (C.take i).length ≤ 200 := by rw [List.length_take]; omega
          have hcq := right_cost HRR.out hql
          have HNEXT := Lib.hid (show ((C.take (i + 1)).map (costAt l)).sum = ((C.take i).map (costAt l)).sum + (edAt l q).cost ∧ (C.take (i + 1)).map (idAt l) = (C.take i).map (idAt l) ++ [(edAt l q).id] by
            rw [htk]; simp [costAt, idAt])
          obtain ⟨y, hy⟩ : ∃ y, y = ((C.take i).map (costAt l)).sum := ⟨_, rfl⟩
          rw [← hy] at hsb HNEXT ⊢
          obtain ⟨hsb1, hsb2⟩ := hsb
          obtain ⟨hcq1, hcq2⟩ := hcq
          have hprev : Hid (∀ i', i = i' + 1 → ∃ q' : Nat, numAt C i' = (q' : Int) ∧ q' < q) := fun i' hi' => by
            obtain ⟨q', hq', _⟩ := HMEM.out (numAt C i') (List.mem_of_getElem? (numAt_eq (by omega)))
            have := pairwise_at HUP.out (i := i') (by omega)
            rw [← hi', hq, hq'] at this
            exact ⟨q', hq', by omega⟩
          have HZ := Lib.hid hbw.size
          clear hbw htk hy hq
          rcases (show decide ((0 : Int) < (i : Int)) = false ∨ ∃ i', Hid (i = i' + 1) ∧ (i : Int) - 1 = (i' : Int) ∧ decide ((0 : Int) < (i : Int)) = true by
            rcases Nat.eq_zero_or_pos i with h | h
            · left; rw [decide_eq_false_iff_not]; omega
            · right; exact ⟨i - 1, by show i = i - 1 + 1; omega, by omega, by rw [decide_eq_true_eq]; omega⟩) with i5 | ⟨i', hi', i8, i5⟩
          case' inl =>
            have i9 : decide (0 < i) = false := by simp only [decide_eq_false_iff_not] at i5 ⊢; omega
            clear x0 x1 x2 x3
            go_wp2_with fail
            go_quiet (fail)
            skip
          case' inr =>
            have hii : i = i' + 1 := hi'
            obtain ⟨q', hq', hqq⟩ := hprev.out i' hii
            have z1 := HC3.out.at_ HBW.out (i := i') (by omega)
            rw [hq'] at z1
            have i10 : decide ((q : Int) ≤ (q' : Int)) = false := by rw [decide_eq_false_iff_not]; omega
            have i11 : decide (q ≤ q') = false := by rw [decide_eq_false_iff_not]; omega
            have i6 : ((i' : Int) < (C.length : Int)) := by omega
            have i9 : decide (0 < i) = true := by rw [decide_eq_true_eq]; omega
            have i12 : 0 < i := by omega
            clear x0 x1 x2 x3 hii hq' hqq
            go_wp2_with fail
            go_quiet (fail)
            skip
          all_goals
            obtain ⟨W, hW⟩ : ∃ W, W = wr.drewN nq := ⟨_, rfl⟩
            have hbw3 : Below w3.heap.size w3 W := by rw [hW]; exact below_drewN HBW.out _
            have hO2 : OwnS 3 1 W w3.heap.size (.slice A4 i c4) i (((C.take i).map (idAt l)).map (Value.int .i64)) := by rw [hW]; exact HO.out.drewN _
            rw [← hW]
            have hbw : Below w.heap.size w W := below_in HB3.out hbw3 HB3.out.size
            have z0 : W.cell? (a3.add i) = some (.int .i64 (q : Int)) := by rw [hW]; exact z0
            obtain ⟨x0, x1, x2, x3⟩ := HL.out.at_ hbw hql
            have HBW3 := Lib.hid hbw3
            have HZ3 := Lib.hid hbw.size
            have HO3 := Lib.hid hO2
            clear hW hbw3 hO2 hbw HBW HO
            go_wp2_with (at_builtin; refine OwnS.wp_append rfl _ _ 23 rfl 3 (.int .i64 0) 1 8 Try.underlying23 (by kernel_rfl) rfl (by omega) (by omega) w3.heap.size i _ (((C.take i).map (idAt l)).map (Value.int .i64)) rfl (HO3.out.alloc _) ⟨_, 0, none⟩ 1 [.int .i64 (edAt l q).id] rfl rfl (box_cells _ #[.int .i64 (edAt l q).id] 3 _ (by simp)) (by simp [Value.oneCell']) (by omega) (by have := HBW3.out.size; simp; omega) ?_)
            intro v' w5 ho5 hg5 _
            obtain ⟨A5, c5, rfl, _, _⟩ := ho5.slice
            have hb5 := (HBW3.out.alloc HBW3.out.size (.cells #[.int .i64 (edAt l q).id] 3)).grown hg5 (by have := HBW3.out.size; simp; omega) (fun j hj => (HO3.out.block hj).1)
            have ho6 : OwnS 3 1 w5 w3.heap.size (.slice A5 (i + 1) c5) (i + 1) (((C.take (i + 1)).map (idAt l)).map (Value.int .i64)) := by
              rw [HNEXT.out.2, List.map_append, List.map_take, List.map_take]
              rw [← List.map_map] at ho5
              exact ho5
            have HO6 := Lib.hid ho6
            have HB5 := Lib.hid hb5
            clear ho5 ho6 hb5 hg5 z0 x0 x1 x2 x3
            go_wp2_with fail
            go_roundw
            case rel => exact ⟨i + 1, by omega, by go_num, by rw [HNEXT.out.1], HO6.out, HB5.out⟩
            case measure => simp [intOf]; omega
        · have hil : i = C.length := by omega
          subst hil
          rw [List.take_length] at HO ⊢
          rw [HSUM.out]
          have i1 : ¬ ((C.length : Int) < (C.length : Int)) := by omega
          have hbw : Below w.heap.size w wr := below_in HB3.out HBW.out HB3.out.size
          have hid : RdI wr A4 (C.map (idAt l)) := HO.out.rdI
          have hwo := without_any A A4 c c4 l (C.map (idAt l)) wr (HL.out.below hbw) hid (by omega)
          rw [List.length_map] at hwo
          have HWO := Lib.hid hwo
          have HBW2 := Lib.hid hbw
          have hbd := maxV_bound HRR.out s t
          clear hwo hid hbw HO HBW
          go_wp2_with fail
          refine HWO.out.mono ?_
          rintro e w5 ⟨v5, rfl, ho5, hb5⟩
          obtain ⟨A5, c5, rfl, _, _⟩ := ho5.slice
          have hwl : (withoutL l (C.map (idAt l))).length ≤ 200 := by
            have := List.length_filter_le (fun e : Edge => !decide (e.id ∈ C.map (idAt l))) l
            unfold withoutL; omega
          have HB5 := Lib.hid (below_in HBW2.out hb5 HBW2.out.size)
          have hrd5 : RdE (w5.alloc (.cells #[.int .i64 s] 3)) A5 (withoutL l (C.map (idAt l))) := (ho5.alloc _).rdE (by omega)
          have HGR := Lib.hid (greach_any A5 (some ⟨w5.heap.size, 0, none⟩) c5 1 (withoutL l (C.map (idAt l))) [s] (w5.alloc (.cells #[.int .i64 s] 3)) hrd5 (rdI_new w5 [s] (by simp) _ rfl) (by omega) (by simp)
            (fun x hx => by simp at hx; subst hx; exact HSW.out) (fun e he => by
              have := HRR.out.ok e (List.mem_filter.1 he).1
              obtain ⟨_, _, h3, h4, _⟩ := this
              omega))
          have HB6 := Lib.hid (HB5.out.alloc HB5.out.size (.cells #[.int .i64 s] 3))
          clear hb5 ho5 hrd5 HWO
          go_wp2_with fail
          refine HGR.out.mono ?_
          rintro e w7 ⟨v7, ss, rfl, ho7, hrs, hb7⟩
          obtain ⟨A7, c7, rfl, _, _⟩ := ho7.slice
          have hno : ∀ x ∈ ss, x ≠ t := fun x hx e' => by
            have := hrs.sound (· ∈ S) (fun y hy => by simp at hy; subst hy; exact HM.out.src) HSHUT.out x hx
            exact HM.out.dst (e' ▸ this)
          have HNO := Lib.hid hno
          have HR7 := Lib.hid ho7.rdI
          have HB7 := Lib.hid (below_in HB6.out hb7 HB6.out.size)
          clear hno ho7 hrs hb7 HGR
          go_wp2_with fail
          have hsl : ss.length ≤ 9223372036854775807 := HR7.out.1
          go_loop [12] (fun iv => ∃ i : Nat, i ≤ ss.length ∧ iv = .int .i64 (i : Int)) (fun iv => ss.length - (intOf iv).toNat)
          case atStart => exact ⟨0, by omega, rfl⟩
          case round =>
            obtain ⟨i, hi, rfl⟩ := hrel
            by_cases hlt : i < ss.length
            · have j1 : ((i : Int) < (ss.length : Int)) := by omega
              obtain ⟨a7, rfl⟩ := HR7.out.addr hlt
              have z0 := HR7.out.at_ (Below.refl _ _) hlt
              have hne : (numAt ss i == t) = false := by
                rw [beq_eq_false_iff_ne]
                exact HNO.out _ (List.mem_of_getElem? (numAt_eq hlt))
              go_wp2_with fail
              go_round
              case rel => exact ⟨i + 1, by omega, by go_num⟩
              case measure => simp [intOf]; omega
            · have hil : i = ss.length := by omega
              subst hil
              have j1 : ¬ ((ss.length : Int) < (ss.length : Int)) := by omega
              go_wp2_with fail
              refine (find_ne A c l s t _ (HL.out.below HB7.out) HRR.out HST.out).mono ?_
              rintro e w8 ⟨v8, f8, S8, rfl, ho8, hm8, hb8⟩
              obtain ⟨A8, c8, rfl, _, _⟩ := ho8.slice
              have HB8 := Lib.hid (HB7.out.trans (hb8.mono HB7.out.size))
              have hva := fun W (h : Below w8.heap.size w8 W) => valid_any A A8 c c8 l f8 s t W (HL.out.below (below_in HB8.out h HB8.out.size)) (ho8.rdI.below h) HRR.out
              rw [hm8.flow.len, validB_true hm8.flow] at hva
              have hvu := fun W (h : Below w8.heap.size w8 W) => value_any A A8 c c8 l f8 s W (HL.out.below (below_in HB8.out h HB8.out.size)) (ho8.rdI.below h) hm8.flow.len
              rw [hm8.flow.len, hm8.flow.wrap HRR.out, ← maxV_of hm8] at hvu
              have HVA := Lib.hid hva
              have HVU := Lib.hid hvu
              have HMX := Lib.hid (max_any A c l s t w8 (HL.out.below HB8.out) HRR.out)
              clear hva hvu hm8 ho8 hb8
              go_wp2_with fail
              refine HMX.out.mono ?_
              rintro e w9 ⟨rfl, hb9⟩
              have gs : (maxV l s t == maxV l s t) = true := by simp
              have HC1 := Lib.hid (HVA.out _ hb9)
              have HB9 := Lib.hid hb9
              clear hb9
              go_wp2_with fail
              refine HC1.out.mono ?_
              rintro e w10 ⟨rfl, hb10⟩
              have HB10 := Lib.hid (HB9.out.trans (hb10.mono HB9.out.size))
              clear hb10
              go_wp2_with fail
              refine (HVU.out _ HB10.out).mono ?_
              rintro e w11 ⟨rfl, hb11⟩
              have HB11 := Lib.hid (below_in HB8.out (HB10.out.trans (hb11.mono HB10.out.size)) HB8.out.size)
              clear hb11
              go_wp2_with fail
              go_ret
              exact ⟨rfl, HB11.out⟩
  · simp only [Bool.not_eq_true] at hfew
    rw [hfew]
    go_wp2_with fail
    go_ret
    exact ⟨rfl, HB2.out⟩
end Go.Proofs.Ytambnjhopijkfaa
