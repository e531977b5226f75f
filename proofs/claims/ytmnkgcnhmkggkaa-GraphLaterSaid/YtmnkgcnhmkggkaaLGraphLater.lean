/- Proved here: the law GraphLater returns true for all arguments that read as edges, and changes nothing that was there before. -/
import Derived.Test.YtmnkgcnhmkggkaaLaterTh
import Derived.Deep.RegionHeld3
import Derived.IntWalk
namespace Go.Proofs.Ytmnkgcnhmkggkaa
open Go.RowKit
set_option maxRecDepth 100000 in
set_option maxHeartbeats 4000000 in
theorem place_any (A : Option Addr) (c : Nat) (l : List Int) (n : Int) (w : World) (hl : RdI w A l) :
    Calls Try.prog 26 #[.slice A l.length c, .int .i64 n] w fun e w' => e = .returned (.int .i64 (placeV l n)) ∧ w = w' := by
  have hm := hl.1
  have HL := Lib.hid hl
  clear hl
  go_enter Try.func26, Try.ntmps26
  go_wp2_with fail
  go_loop [5] (fun i => ∃ k : Nat, k ≤ l.length ∧ i = .int .i64 k ∧ Hid (∀ j, j < k → numAt l j ≠ n)) (fun i => l.length - (intOf i).toNat)
  case atStart => exact ⟨0, Nat.zero_le _, rfl, fun j h => by omega⟩
  case round =>
    obtain ⟨k, hk, rfl, HI⟩ := hrel
    by_cases hlt : k < l.length
    · have i1 : ((k : Int) < (l.length : Int)) := by omega
      obtain ⟨a, rfl⟩ := HL.out.addr hlt
      have c0 := HL.out.at_ (Below.refl _ _) hlt
      by_cases he : numAt l k = n
      · have he' : (numAt l k == n) = true := by simp [he]
        have HE := Lib.hid (show placeV l n = (k : Int) by
          unfold placeV
          rw [if_pos (he ▸ numAt_mem hlt), idxN_at hlt he HI.out])
        clear he
        go_wp2_with fail
        go_ret
        exact ⟨by rw [HE.out]; rfl, rfl⟩
      · have he' : (numAt l k == n) = false := by simp [he]
        have HN := Lib.hid (show ∀ j, j < k + 1 → numAt l j ≠ n from fun j hj => by
          rcases Nat.lt_or_ge j k with h | h
          · exact HI.out j h
          · have : j = k := by omega
            subst this
            exact he)
        clear he
        go_wp2_with fail
        go_round
        case rel => exact ⟨k + 1, by omega, by go_num, HN.out⟩
        case measure => simp [intOf]; omega
    · have HE := Lib.hid (show placeV l n = -1 by
        unfold placeV
        refine if_neg fun hm' => ?_
        obtain ⟨j, hj, hje⟩ := List.mem_iff_getElem.1 hm'
        have e1 := numAt_eq hj
        rw [List.getElem?_eq_getElem hj] at e1
        exact HI.out j (by omega) ((Option.some.inj e1).symm.trans hje))
      have i1 : ¬ ((k : Int) < (l.length : Int)) := by omega
      go_wp2_with fail
      go_ret
      exact ⟨by rw [HE.out]; rfl, rfl⟩
/-- Is there a loop through one of the first k edges? -/
noncomputable def loopB (l : List Edge) (k : Nat) : Bool := @decide (∃ i, i < k ∧ LoopE l (edAt l i)) (Classical.propDecidable _)
theorem loopB_zero (l : List Edge) : loopB l 0 = false := by unfold loopB; simp
theorem loopB_true {l : List Edge} {k : Nat} : loopB l k = true ↔ ∃ i, i < k ∧ LoopE l (edAt l i) := by unfold loopB; simp
theorem loopB_step {l : List Edge} {k : Nat} (h : loopB l k = false) {b : Bool} (hb : b = true ↔ LoopE l (edAt l k)) : loopB l (k + 1) = b := by
  rw [Bool.eq_iff_iff, hb, loopB_true]
  constructor
  · rintro ⟨i, hi, hl⟩
    rcases Nat.lt_or_ge i k with hk | hk
    · have := loopB_true.2 ⟨i, hk, hl⟩
      rw [h] at this; cases this
    · have : i = k := by omega
      subst this; exact hl
  · exact fun hl => ⟨k, by omega, hl⟩
theorem loopB_keep {l : List Edge} {k : Nat} (h : loopB l k = true) : loopB l (k + 1) = true := by
  obtain ⟨i, hi, hl⟩ := loopB_true.1 h
  exact loopB_true.2 ⟨i, by omega, hl⟩
set_option maxRecDepth 100000 in
set_option maxHeartbeats 4000000 in
theorem graphLater_walk (A : Option Addr) (c : Nat) (l : List Edge) (w : World) (hl : RdE w A l) :
    Calls Try.prog 8 #[.slice A l.length c] w fun e w' => e = .returned (.bool true) ∧ Below w.heap.size w w' := by
  have hm := hl.1
  have HA := Lib.hid (alive_any w)
  have HL := Lib.hid hl
  clear hl
  go_enter Try.func8, Try.ntmps8
  go_wp2_with fail
  refine HA.out.mono ?_
  rintro e w1 ⟨rfl, hb⟩
  have HB := Lib.hid hb
  clear hb HA
  have HC := Lib.hid (lright_any A c l w1 (HL.out.below HB.out))
  go_wp2_with fail
  refine HC.out.mono ?_
  rintro e w2 ⟨rfl, hb⟩
  replace HB := Lib.hid (below_in HB.out hb HB.out.size)
  clear hb HC
  by_cases hr0 : errL l = 0
  · have hr := errL_zero hr0
    have hr1 : (errL l == 0) = true := by simp [hr0]
    rw [hr1]
    have HR := Lib.hid hr
    clear hr hr0 hr1
    by_cases h60 : l.length ≤ 60
    · have i1 : decide (60 < l.length) = false := by simp; omega
      have i2 : decide ((60 : Int) < (l.length : Int)) = false := by simp; omega
      have HC := Lib.hid (order_any A c l w2 (HL.out.below HB.out) HR.out)
      obtain ⟨o, ho⟩ : ∃ o, o = (orderL l).1 := ⟨_, rfl⟩
      obtain ⟨oe, hoe⟩ : ∃ oe, oe = (orderL l).2 := ⟨_, rfl⟩
      rw [← ho, ← hoe] at HC
      have hend := order_end ((nodesL l).length + 1) [] (OInv.nil l) (fun e he hd => by simp at hd) (by simp)
      have HEND := Lib.hid (show (oe = 0 ∧ OInv l o ∧ Asc l o ∧ ∀ n ∈ nodesL l, n ∈ o) ∨ (oe = 16 ∧ o = [] ∧ ∃ e ∈ l, LoopE l e) by
        rcases hend with ⟨o', h1, h2, h3, h4⟩ | ⟨h1, o', h2, h3⟩
        · rw [h1] at ho hoe
          simp only at ho hoe
          subst ho
          exact .inl ⟨hoe, h2, h3, h4⟩
        · rw [h1] at ho hoe
          exact .inr ⟨hoe, ho, stuck_loop h2 h3⟩)
      clear ho hoe hend
      go_wp2_with fail
      refine HC.out.mono ?_
      rintro e w3 ⟨v3, rfl, hown, hb⟩
      obtain ⟨A3, c3, rfl, _, _⟩ := hown.slice
      replace HB := Lib.hid (below_in HB.out hb HB.out.size)
      have HO := Lib.hid hown.rdI
      clear hb hown HC
      go_wp2_with fail
      go_loopw [5, 6] (fun lv i wr => ∃ (k : Nat) (b : Bool), k ≤ l.length ∧ i = .int .i64 k ∧ lv = .bool b ∧ Hid (loopB l k = b) ∧ Hid (Below w3.heap.size w3 wr)) (fun _ i _ => l.length - (intOf i).toNat)
      case atStart => exact ⟨0, false, Nat.zero_le _, rfl, rfl, loopB_zero l, Below.refl _ _⟩
      case round =>
        obtain ⟨k, b, hk, rfl, rfl, HLB, HBQ⟩ := hrel
        by_cases hlt : k < l.length
        · have i3 : ((k : Int) < (l.length : Int)) := by omega
          obtain ⟨a, rfl⟩ := HL.out.addr hlt
          have hbw : Below w.heap.size w wr := below_in HB.out HBQ.out HB.out.size
          have HCE := Lib.hid (fun W (h : Below wr.heap.size wr W) => HL.out.at_ (below_in hbw h hbw.size) hlt)
          have hb0 : Hid (Below wr.heap.size wr wr) := Below.refl _ _
          have hb1 : Hid (Below wr.heap.size wr wr.drew) := (Below.refl _ _).drew
          have hdr := HR.out.dsts _ (edAt_mem hlt)
          obtain ⟨sv, hsv⟩ : ∃ sv, sv = (edAt l k).src := ⟨_, rfl⟩
          obtain ⟨dv, hdv⟩ : ∃ dv, dv = (edAt l k).dst := ⟨_, rfl⟩
          have HRE := Lib.hid (show ∀ W, Below wr.heap.size wr W → Calls Try.prog 16 #[.slice (some a) l.length c, .slice (some ⟨W.heap.size, 0, none⟩) 1 1] (W.alloc (.cells #[.int .i64 dv] 3)) (fun e w' => ∃ A' c' ss, e = .returned (.slice A' ss.length c') ∧ RdI w' A' ss ∧ RS5 l [dv] ss ∧ Below wr.heap.size wr w') from fun W hW =>
            (reach_at (some a) c l HR.out [dv] (by simpa [hdv] using hdr) (by simp) W (HL.out.below (below_in hbw hW hbw.size))).mono fun e w' ⟨A', c', ss, h1, h2, h3, h4⟩ => ⟨A', c', ss, h1, h2, h3, below_in hW h4 hW.size⟩)
          rw [← hsv, ← hdv] at HCE
          have HSV := Lib.hid hsv
          have HDV := Lib.hid hdv
          have HBW := Lib.hid hbw
          clear hsv hdv hdr hbw
          cases b with
          | true =>
            have HK := Lib.hid (loopB_keep HLB.out)
            go_wp2_with fail
            go_big_quiet (fail)
            go_wp2_with fail
            go_roundw
            case rel => exact ⟨k + 1, true, by omega, by go_num, rfl, HK.out, below_drewN HBQ.out _⟩
            case measure => simp [intOf]; omega
          | false =>
            go_wp2_with fail
            go_region_held3 (fun W : World => W.cell? (a.add (k * 4)) = some (.int .i64 (edAt l k).id) ∧
                W.cell? ⟨(a.add (k * 4)).block, (a.add (k * 4)).off + 1, none⟩ = some (.int .i64 sv) ∧
                W.cell? ⟨(a.add (k * 4)).block, (a.add (k * 4)).off + 2, none⟩ = some (.int .i64 dv) ∧
                W.cell? ⟨(a.add (k * 4)).block, (a.add (k * 4)).off + 3, none⟩ = some (.int .i64 (edAt l k).cost)) (first | exact HCE.out _ hb0.out | exact HCE.out _ hb1.out | exact HCE.out _ HBC.out | exact HCE.out _ (hb1.out.alloc hb1.out.size _) | exact HCE.out _ (hb0.out.alloc hb0.out.size _))
              (first
                | (go_at_call 16; (first | refine (HRE.out wr.drew hb1.out).mono ?_ | refine (HRE.out wr hb0.out).mono ?_); rintro e w5 ⟨A5, c5, s5, rfl, hr5, hs5, hb5⟩; have HR5 := Lib.hid hr5; have HS5 := Lib.hid hs5; have HBC := Lib.hid hb5; clear hr5 hs5 hb5)
                | (go_at_call 24; refine (has_any A5 c5 s5 sv w5 HR5.out).mono ?_; rintro e w6 ⟨rfl, rfl⟩))
            all_goals
              have HK := Lib.hid (loopB_step (b := decide (sv ∈ s5)) HLB.out (by
                rw [decide_eq_true_iff, HS5.out.iff_walk, HSV.out, HDV.out]
                rfl))
              have HB3 := Lib.hid (below_in HBQ.out HBC.out HBQ.out.size)
              go_wp2_with fail
              go_roundw
              case rel => exact ⟨k + 1, _, by omega, by go_num, rfl, HK.out, HB3.out⟩
              case measure => simp [intOf]; omega
        · have hkl : k = l.length := by omega
          have i3 : ¬ ((k : Int) < (l.length : Int)) := by omega
          have HB3 := Lib.hid (below_in HB.out HBQ.out HB.out.size)
          have HO3 := Lib.hid (HO.out.below HBQ.out)
          have hend := HEND.out
          have hlb := HLB.out
          rw [hkl] at hlb
          rcases hend with ⟨rfl, hoi, hasc, hall⟩ | ⟨rfl, rfl, hex⟩
          · have hbf : b = false := by
              cases b with
              | false => rfl
              | true =>
                exfalso
                obtain ⟨i, hi, hl⟩ := loopB_true.1 hlb
                exact asc_noloop hasc hall _ (edAt_mem hi) hl
            subst hbf
            have hol := hoi.len
            rw [nodes_len] at hol
            have t1 : decide (2 * l.length < o.length) = false := by simp; omega
            have t2 : decide (2 * (l.length : Int) < (o.length : Int)) = false := by simp; omega
            have HAS := Lib.hid hasc
            have HALL := Lib.hid hall
            have HND := Lib.hid hoi.nodup
            have W_ := Lib.hid (show IntKind.i64.wrap (2 * (l.length : Int)) = 2 * (l.length : Int) from IntWalk.i64_in _ (by omega))
            have w_ := W_.out
            clear hoi hasc hall hlb HLB HEND HBQ hol
            go_wp2_with fail
            clear w_
            go_loopw [7] (fun i wq => ∃ k : Nat, k ≤ l.length ∧ i = .int .i64 k ∧ Hid (Below wr.heap.size wr wq)) (fun i _ => l.length - (intOf i).toNat)
            case atStart => exact ⟨0, Nat.zero_le _, rfl, Below.refl _ _⟩
            case round =>
              clear hk hkl i3
              obtain ⟨k2, hk2, rfl, HBZ⟩ := hrel
              by_cases hlt2 : k2 < l.length
              · have i3 : ((k2 : Int) < (l.length : Int)) := by omega
                obtain ⟨a, rfl⟩ := HL.out.addr hlt2
                have hbw : Below w.heap.size w wr := below_in HB3.out HBZ.out HB3.out.size
                obtain ⟨x0, x1, x2, x3⟩ := HL.out.at_ hbw hlt2
                have hme := edAt_mem hlt2
                have hsm := HALL.out _ (src_mem hme)
                have hdm := HALL.out _ (dst_mem hme)
                have hlt3 := HAS.out _ hme hdm
                obtain ⟨sv, hsv⟩ : ∃ sv, sv = (edAt l k2).src := ⟨_, rfl⟩
                obtain ⟨dv, hdv⟩ : ∃ dv, dv = (edAt l k2).dst := ⟨_, rfl⟩
                rw [← hsv] at hsm hlt3 x1
                rw [← hdv] at hdm hlt3 x2
                obtain ⟨si, hsi⟩ : ∃ si, si = idxN o sv := ⟨_, rfl⟩
                obtain ⟨di, hdi⟩ : ∃ di, di = idxN o dv := ⟨_, rfl⟩
                rw [← hsi, ← hdi] at hlt3
                have e1 : placeV o sv = (si : Int) := by unfold placeV; rw [if_pos hsm, hsi]
                have e2 : placeV o dv = (di : Int) := by unfold placeV; rw [if_pos hdm, hdi]
                have HS := Lib.hid (fun n => (place_any A3 c3 o sv (wr.drewN n) (HO3.out.below (below_drewN HBZ.out n))).mono fun e w' ⟨h1, h2⟩ => (⟨by rw [h1, e1], h2.symm⟩ : e = Ending.returned (Value.int .i64 (si : Int)) ∧ w' = wr.drewN n))
                have HD := Lib.hid (fun n => (place_any A3 c3 o dv (wr.drewN n) (HO3.out.below (below_drewN HBZ.out n))).mono fun e w' ⟨h1, h2⟩ => (⟨by rw [h1, e2], h2.symm⟩ : e = Ending.returned (Value.int .i64 (di : Int)) ∧ w' = wr.drewN n))
                have t3 : decide ((si : Int) < 0) = false := by simp
                have t4 : decide (di ≤ si) = false := by simp; omega
                have t5 : decide ((di : Int) ≤ (si : Int)) = false := by simp; omega
                clear hbw hme hsm hdm hlt3 hsv hdv hsi hdi e1 e2
                go_wp2_with fail
                go_big_quiet ((first | (go_at_call_of 26 sv; refine Calls.quiet_of_same (HS.out _)) | (go_at_call_of 26 dv; refine Calls.quiet_of_same (HD.out _))))
                go_wp2_with fail
                go_roundw
                case rel => exact ⟨k2 + 1, by omega, by go_num, below_drewN HBZ.out _⟩
                case measure => simp [intOf]; omega
              · have i3 : ¬ ((k2 : Int) < (l.length : Int)) := by omega
                have HO4 := Lib.hid (HO3.out.below HBZ.out)
                have HB4 := Lib.hid (below_in HB3.out HBZ.out HB3.out.size)
                have hol4 := HO4.out.1
                clear hk2 hlt2
                go_wp2_with fail
                go_loop [8] (fun i => ∃ k : Nat, k ≤ o.length ∧ i = .int .i64 k) (fun i => o.length - (intOf i).toNat)
                case atStart => exact ⟨0, Nat.zero_le _, rfl⟩
                case round =>
                  clear i3
                  obtain ⟨k3, hk3, rfl⟩ := hrel
                  by_cases hlt4 : k3 < o.length
                  · have i3 : ((k3 : Int) < (o.length : Int)) := by omega
                    obtain ⟨a3, rfl⟩ := HO4.out.addr hlt4
                    have c0 := HO4.out.at_ (Below.refl _ _) hlt4
                    have hC := place_any (some a3) c3 o (numAt o k3) wr HO4.out
                    have e1 : placeV o (numAt o k3) = (k3 : Int) := by unfold placeV; rw [if_pos (numAt_mem hlt4), idxN_nodup HND.out hlt4]
                    rw [e1] at hC
                    have HC := Lib.hid hC
                    have t6 : ((k3 : Int) != (k3 : Int)) = false := by simp
                    clear hC e1
                    go_wp2_with fail
                    refine HC.out.mono ?_
                    rintro e w12 ⟨rfl, rfl⟩
                    go_wp2_with fail
                    go_round
                    case rel => exact ⟨k3 + 1, by omega, by go_num⟩
                    case measure => simp [intOf]; omega
                  · have i3 : ¬ ((k3 : Int) < (o.length : Int)) := by omega
                    go_wp2_with fail
                    go_ret
                    exact ⟨rfl, HB4.out⟩
          · have hbt : b = true := by
              rw [← hlb]
              obtain ⟨e, he, hl⟩ := hex
              obtain ⟨i, hi, rfl⟩ := mem_edAt he
              exact loopB_true.2 ⟨i, hi, hl⟩
            subst hbt
            clear hex hlb HLB HEND
            go_wp2_with fail
            go_ret
            exact ⟨rfl, HB3.out⟩
    · have i1 : 60 < l.length := by omega
      have i2 : (60 : Int) < (l.length : Int) := by omega
      go_wp2_with fail
      go_ret
      exact ⟨rfl, HB.out⟩
  · have hr1 : (errL l == 0) = false := by simp [hr0]
    rw [hr1]
    go_wp2_with fail
    go_ret
    exact ⟨rfl, HB.out⟩
end Go.Proofs.Ytmnkgcnhmkggkaa
