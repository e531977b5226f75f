/- Proved here: without of the package ways (by slices.Clone and slices.DeleteFunc) and minus of the reference of chapter 11. Condition: the slices read as numbers. -/
import Derived.Test.YtoeiongnjogpeaaContains
import Derived.Test.YtoeiongnjogpeaaClone
import Derived.Test.YtoeiongnjogpeaaOwnAll
import Derived.Test.YtoeiongnjogpeaaHas5
import Derived.Test.YtoeiongnjogpeaaMapAll
import Derived.Lib.SliceRun
import Derived.Deep.DeepMust
namespace Go.Proofs.Ytoeiongnjogpeaa
open Go.RowKit
def minusL (a b : List Int) : List Int := a.filter (fun n => !decide (n ∈ b))
theorem minusL_take {a : List Int} {k : Nat} (h : k < a.length) (b : List Int) : minusL (a.take (k + 1)) b = minusL (a.take k) b ++ if numAt a k ∈ b then [] else [numAt a k] := by
  unfold minusL
  rw [take_num h, List.filter_append]
  congr 1
  by_cases hx : numAt a k ∈ b <;> simp [hx]
theorem minusL_len (a b : List Int) : (minusL a b).length ≤ a.length := List.length_filter_le _ _
structure DInv (a b ys : List Int) (i j : Nat) : Prop where
  len : ys.length = a.length
  lt : i < j
  le : j ≤ a.length
  pre : ys.take i = minusL (a.take j) b
  suf : ys.drop j = a.drop j
theorem DInv.start {a b : List Int} {k : Nat} (hk : k < a.length) (hin : numAt a k ∈ b) (hno : ∀ j, j < k → numAt a j ∉ b) : DInv a b a k (k + 1) := by
  refine ⟨rfl, by omega, by omega, ?_, rfl⟩
  rw [minusL_take hk, if_pos hin, List.append_nil]
  unfold minusL
  rw [List.filter_eq_self.2]
  intro x hx
  obtain ⟨j, hj, hje⟩ := List.mem_iff_getElem.1 hx
  rw [List.length_take] at hj
  have e1 := numAt_eq (l := a) (k := j) (by omega)
  rw [List.getElem?_eq_getElem (by omega)] at e1
  rw [List.getElem_take] at hje
  have h2 := hno j (by omega)
  rw [← Option.some.inj e1, hje] at h2
  simpa using h2
theorem DInv.at_ {a b ys : List Int} {i j : Nat} (h : DInv a b ys i j) (hj : j < a.length) : numAt ys j = numAt a j := by
  have h1 := numAt_eq hj
  have h2 := numAt_eq (l := ys) (k := j) (by rw [h.len]; exact hj)
  have e : ys[j]? = a[j]? := by
    have h3 : (ys.drop j)[0]? = (a.drop j)[0]? := by rw [h.suf]
    rw [List.getElem?_drop, List.getElem?_drop, Nat.add_zero] at h3
    exact h3
  rw [h1, h2] at e
  exact Option.some.inj e
theorem DInv.skip {a b ys : List Int} {i j : Nat} (h : DInv a b ys i j) (hj : j < a.length) (hx : numAt a j ∈ b) : DInv a b ys i (j + 1) := by
  refine ⟨h.len, by have := h.lt; omega, by omega, ?_, ?_⟩
  · rw [minusL_take hj, if_pos hx, List.append_nil, h.pre]
  · rw [← List.drop_drop, h.suf, List.drop_drop]
theorem DInv.keep {a b ys : List Int} {i j : Nat} (h : DInv a b ys i j) (hj : j < a.length) (hx : numAt a j ∉ b) : DInv a b (ys.set i (numAt a j)) (i + 1) (j + 1) := by
  have hlt := h.lt
  have hl := h.len
  refine ⟨by simpa using hl, by omega, by omega, ?_, ?_⟩
  · rw [minusL_take hj, if_neg hx, ← h.pre]
    rw [List.take_succ_eq_append_getElem (by rw [List.length_set]; omega)]
    rw [List.take_set_of_le (Nat.le_refl i), List.getElem_set_self]
  · rw [List.drop_set_of_lt (by omega), ← List.drop_drop, h.suf, List.drop_drop]
set_option maxRecDepth 100000 in
set_option maxHeartbeats 4000000 in
theorem wclo_any (B : Option Addr) (d g : Nat) (b : List Int) (n : Int) (w : World) (hb : RdI w B b) (h : w.cell? ⟨g, 0, none⟩ = some (.slice B b.length d)) :
    Calls Try.prog 108 #[.int .i64 n, .pointer (some ⟨g, 0, none⟩)] w fun e' w' => e' = .returned (.bool (decide (n ∈ b))) ∧ w = w' := by
  have HC := Lib.hid (contains_any B d b n w hb)
  clear hb
  go_enter Try.func108, Try.ntmps108
  go_wp2_with fail
  refine HC.out.mono ?_
  rintro e w1 ⟨rfl, rfl⟩
  go_wp2_with fail
  go_ret
  exact ⟨rfl, rfl⟩
set_option maxRecDepth 100000 in
set_option maxHeartbeats 4000000 in
theorem wix_any (A B : Option Addr) (c d g : Nat) (a b : List Int) (k0 : Nat) (hno : ∀ j, j < k0 → numAt a j ∉ b) (hyes : k0 < a.length → numAt a k0 ∈ b) (w : World) (ha : RdI w A a) (hb : RdI w B b) (h : w.cell? ⟨g, 0, none⟩ = some (.slice B b.length d)) :
    Calls Try.prog 84 #[.slice A a.length c, .func (.func 108) #[] #[.pointer (some ⟨g, 0, none⟩)]] w fun e w' => e = .returned (.int .i64 (ixOf k0 a.length)) ∧ w = w' := by
  have hm := ha.1
  have HA := Lib.hid ha
  have HC := Lib.hid (fun (n : Int) => wclo_any B d g b n w hb h)
  have HNO := Lib.hid hno
  have HYES := Lib.hid hyes
  clear ha hb h hno hyes
  go_enter Try.func84, Try.ntmps84
  go_wp2_with fail
  go_loop [8] (fun i => ∃ k : Nat, k ≤ k0 ∧ k ≤ a.length ∧ i = .int .i64 k) (fun i => a.length - (intOf i).toNat)
  case atStart => exact ⟨0, Nat.zero_le _, Nat.zero_le _, rfl⟩
  case round =>
    obtain ⟨k, hk, hkl, rfl⟩ := hrel
    by_cases hlt : k < a.length
    · have i1 : ((k : Int) < (a.length : Int)) := by omega
      obtain ⟨ad, rfl⟩ := HA.out.addr hlt
      have x0 := HA.out.at_ (Below.refl _ _) hlt
      have HC1 := Lib.hid (HC.out (numAt a k))
      go_wp2_with fail
      refine HC1.out.mono ?_
      rintro e w1 ⟨rfl, rfl⟩
      clear HC1
      by_cases he : k = k0
      · rw [decide_eq_true (he ▸ HYES.out (he ▸ hlt))]
        have HK := Lib.hid (show ixOf k0 a.length = k by unfold ixOf; rw [if_pos (by omega), he])
        clear he
        go_wp2_with fail
        go_ret
        exact ⟨by rw [HK.out]; rfl, rfl⟩
      · rw [decide_eq_false (HNO.out k (by omega))]
        have hk1 : k + 1 ≤ k0 := by omega
        clear he
        go_wp2_with fail
        go_round
        case rel => exact ⟨k + 1, hk1, by omega, by go_num⟩
        case measure => simp [intOf]; omega
    · have i1 : ¬ ((k : Int) < (a.length : Int)) := by omega
      have HK := Lib.hid (show ixOf k0 a.length = -1 by unfold ixOf; rw [if_neg (by omega)])
      go_wp2_with fail
      go_ret
      exact ⟨by rw [HK.out]; rfl, rfl⟩
theorem first_in (a b : List Int) : ∃ k0, k0 ≤ a.length ∧ (∀ j, j < k0 → numAt a j ∉ b) ∧ (k0 < a.length → numAt a k0 ∈ b) := by
  induction a with
  | nil => exact ⟨0, by simp, fun j h => by omega, fun h => by simp at h⟩
  | cons x a ih =>
    by_cases hx : x ∈ b
    · exact ⟨0, by simp, fun j h => by omega, fun _ => by simpa [numAt] using hx⟩
    · obtain ⟨k, h1, h2, h3⟩ := ih
      refine ⟨k + 1, by simp; omega, fun j hj => ?_, fun h => by simpa [numAt] using h3 (by simpa using h)⟩
      cases j with
      | zero => simpa [numAt] using hx
      | succ j => simpa [numAt] using h2 j (by omega)
theorem minusL_all {a b : List Int} (h : ∀ j, j < a.length → numAt a j ∉ b) : minusL a b = a := by
  unfold minusL
  rw [List.filter_eq_self]
  intro x hx
  obtain ⟨j, hj, hje⟩ := List.mem_iff_getElem.1 hx
  have e1 := numAt_eq hj
  rw [List.getElem?_eq_getElem hj] at e1
  have h2 := h j hj
  rw [← Option.some.inj e1, hje] at h2
  simpa using h2
set_option maxRecDepth 100000 in
set_option maxHeartbeats 4000000 in
theorem wdel_any (B : Option Addr) (d g : Nat) (v : Value) (a b : List Int) (w0 w : World) (ho : OwnI w w0.heap.size v a) (hb0 : Below w0.heap.size w0 w) (hb : RdI w0 B b) (h : w0.cell? ⟨g, 0, none⟩ = some (.slice B b.length d)) (hlen : a.length ≤ 100000) :
    Calls Try.prog 54 #[v, .func (.func 108) #[] #[.pointer (some ⟨g, 0, none⟩)]] w fun e w' => ∃ A' c', e = .returned (.slice A' (minusL a b).length c') ∧ RdI w' A' (minusL a b) ∧ Below w0.heap.size w0 w' := by
  obtain ⟨A, cp, rfl⟩ := ho.slice
  obtain ⟨k0, hk0, hno, hyes⟩ := first_in a b
  have HIX := Lib.hid (wix_any A B cp d g a b k0 hno hyes w ho.rdI (hb.below hb0) ((hb0.cell (World.block_lt_of_cell? _ _ h)).trans h))
  have HO := Lib.hid ho
  have HB0 := Lib.hid hb0
  have HBB := Lib.hid hb
  have HC := Lib.hid (fun (n : Int) (W : World) (hW : Below w0.heap.size w0 W) => wclo_any B d g b n W (hb.below hW) ((hW.cell (World.block_lt_of_cell? _ _ h)).trans h))
  have HNO := Lib.hid hno
  have HYES := Lib.hid hyes
  clear ho hb0 hb h hno hyes
  go_enter Try.func54, Try.ntmps54
  go_wp2_with fail
  refine HIX.out.mono ?_
  rintro e w1 ⟨rfl, rfl⟩
  by_cases hk : k0 < a.length
  · have e1 : ixOf k0 a.length = (k0 : Int) := by unfold ixOf; rw [if_pos hk]
    rw [e1]
    have t1 : ((k0 : Int) == -1) = false := by simp
    obtain ⟨gg, o, rfl, _, _⟩ := OwnS.cell (show OwnS 3 1 w w0.heap.size (.slice A a.length cp) a.length (a.map (Value.int .i64)) from HO.out) (j := k0) (u := .int .i64 (numAt a k0)) (by rw [List.getElem?_map, numAt_eq hk]; rfl)
    have HD0 := Lib.hid (DInv.start hk (HYES.out hk) HNO.out)
    have HCAP := Lib.hid (OwnS.slice HO.out)
    clear HIX e1
    go_wp2_with fail
    go_loopw [5, 6] (fun iv jv wr => ∃ (i j : Nat) (ys : List Int), iv = .int .i64 i ∧ jv = .int .i64 j ∧ j ≤ a.length ∧ i < j ∧ Hid (DInv a b ys i j) ∧ Hid (OwnI wr w0.heap.size (.slice (some ⟨gg, o, none⟩) a.length cp) ys) ∧ Hid (Below w0.heap.size w0 wr)) (fun _ jv _ => a.length - (intOf jv).toNat)
    case atStart => exact ⟨k0, k0 + 1, a, rfl, rfl, by omega, by omega, HD0.out, HO.out, HB0.out⟩
    case round =>
      clear HD0 HO HB0
      obtain ⟨i, j, ys, rfl, rfl, hj, hij, HD, HO, HB⟩ := hrel
      by_cases hlt : j < a.length
      · have i1 : ((j : Int) < (a.length : Int)) := by omega
        have i2 : ((i : Int) < (a.length : Int)) := by omega
        have hyl := HD.out.len
        have x0 := (OwnI.rdI HO.out).at_ (Below.refl _ _) (i := j) (by rw [hyl]; exact hlt)
        rw [HD.out.at_ hlt, Addr.add_lit] at x0
        obtain ⟨_, _, e1, x1, x2⟩ := OwnS.cell (show OwnS 3 1 wr w0.heap.size (.slice (some ⟨gg, o, none⟩) ys.length cp) ys.length (ys.map (Value.int .i64)) from by rw [hyl]; have := HO.out; unfold OwnI at this; rw [hyl] at this; exact this) (j := i) (u := .int .i64 (numAt ys i)) (by rw [List.getElem?_map, numAt_eq (by omega)]; rfl)
        cases e1
        have HC1 := Lib.hid (HC.out (numAt a j) wr HB.out)
        have HYL := Lib.hid hyl
        clear hyl
        go_wp2_with fail
        refine HC1.out.mono ?_
        rintro e w2 ⟨rfl, rfl⟩
        clear HC1
        by_cases hx : numAt a j ∈ b
        · rw [decide_eq_true hx]
          have HD2 := Lib.hid (HD.out.skip hlt hx)
          clear hx
          go_wp2_with fail
          go_roundw
          case rel => exact ⟨i, j + 1, ys, rfl, by go_num, by omega, by omega, HD2.out, HO.out, HB.out⟩
          case measure => simp [intOf]; omega
        · rw [decide_eq_false hx]
          have HD2 := Lib.hid (HD.out.keep hlt hx)
          clear hx
          go_wp2_with fail
          go_roundw
          case rel =>
            have h1 := HO.out
            unfold OwnI at h1
            rw [HYL.out] at h1
            obtain ⟨h2, h3⟩ := OwnS.store h1 i (.int .i64 (numAt a j))
            refine ⟨i + 1, j + 1, ys.set i (numAt a j), by go_num, by go_num, by omega, by omega, HD2.out, ?_, HB.out.grown h3 HB.out.size (fun q hq => by cases hq; exact (OwnS.block h1 rfl).1)⟩
            show OwnS _ _ _ _ _ _ _
            rw [List.length_set, HYL.out, List.map_set]
            exact h2
          case measure => simp [intOf]; omega
      · have hje : j = a.length := by omega
        subst hje
        have i1 : ¬ ((a.length : Int) < (a.length : Int)) := by omega
        have i2 : ((i : Int) ≤ (a.length : Int)) := by omega
        have i3 : (0 : Int) ≤ (i : Int) := by omega
        obtain ⟨_, _, _, hcap, hcap2⟩ := HCAP.out
        have hfin : (minusL a b).length = i ∧ ∀ q, q < i → numAt (minusL a b) q = numAt ys q := by
          have h1 := HD.out.pre
          have h2 := HD.out.len
          rw [List.take_length] at h1
          refine ⟨by rw [← h1, List.length_take]; omega, fun q hq => ?_⟩
          rw [← h1]
          simp [numAt, hq]
        have HFIN := Lib.hid hfin
        obtain ⟨W2, hcl, hr2, hb2⟩ : ∃ W2, (∀ ty, (Builtin.clear_ #[25] ty #[.slice (some ⟨gg, o + i, none⟩) (a.length - i) (cp - i)]).run Try.prog wr = .ok (.tuple #[]) W2) ∧ RdI W2 (some ⟨gg, o, none⟩) (minusL a b) ∧ Below w0.heap.size w0 W2 := by
          have h1 := HO.out
          have hyl := HD.out.len
          unfold OwnI at h1
          rw [hyl] at h1
          obtain ⟨q1, A2, c2, hv, q2, q3, q4⟩ := h1
          cases hv
          rcases q4 with ⟨q5, _⟩ | ⟨g2, o2, cur, hA, q6, q7, q8, q9⟩
          · cases q5
          · cases hA
            simp only [Nat.mul_one] at q1 q8
            rw [List.length_map] at q1
            obtain ⟨cur', z1, z2, z3, z4, z5⟩ := setCells_block (List.replicate (a.length - i) (.int .i64 0)) (o + i) wr cur q7 (by simp; omega)
            refine ⟨wr.setCells gg (o + i) (List.replicate (a.length - i) (.int .i64 0)), fun ty => ?_, ⟨?_, fun q hq => ⟨_, rfl, ?_⟩⟩, HB.out.grown z5 HB.out.size (fun q hq => by cases hq; exact q6)⟩
            · exact Lib.run_clear_slice wr 25 3 ty (.int .i64 0) Try.underlying25 (fun w => by simp [go_sem]) rfl rfl gg (o + i) (a.length - i) (cp - i) (by omega) (fun j hj => by
                have : o + i + j < cur.size := by omega
                simp [World.cell?, q7, this]) (fun j hj => by simp [World.frozen?, q7])
            · have := hfin.1; omega
            · have hqi : q < i := by have := hfin.1; omega
              have e1 := q9 q (.int .i64 (numAt ys q)) (by rw [List.getElem?_map, numAt_eq (by omega)]; rfl)
              have e2 := z3 (o + q) (by omega)
              rw [Addr.add_lit, hfin.2 q hqi]
              simp [World.cell?, z1, e2, e1]
        have HR2 := Lib.hid hr2
        have HB2 := Lib.hid hb2
        clear hfin hr2 hb2
        go_wp2_with fail
        go_ret
        exact ⟨some ⟨gg, o, none⟩, ⟨_, by rw [HFIN.out.1]; rfl⟩, HR2.out, HB2.out⟩
  · have e1 : ixOf k0 a.length = -1 := by unfold ixOf; rw [if_neg hk]
    rw [e1]
    have HM := Lib.hid (minusL_all (fun j hj => HNO.out j (by omega)))
    go_wp2_with fail
    go_ret
    rw [HM.out]
    exact ⟨A, cp, rfl, HO.out.rdI, HB0.out⟩
set_option maxRecDepth 100000 in
set_option maxHeartbeats 4000000 in
/-- without -/
theorem wwithout_any (A B : Option Addr) (c d : Nat) (a b : List Int) (w : World) (ha : RdI w A a) (hb : RdI w B b) (hlen : a.length ≤ 100000) :
    Calls Try.prog 73 #[.slice A a.length c, .slice B b.length d] w fun e w' => ∃ A' c', e = .returned (.slice A' (minusL a b).length c') ∧ RdI w' A' (minusL a b) ∧ Below w.heap.size w w' := by
  obtain ⟨W1, hW1⟩ : ∃ W1, W1 = w.alloc (.cells #[.slice B b.length d] 25) := ⟨_, rfl⟩
  have hb1 : Below w.heap.size w W1 := by rw [hW1]; exact box_below _ _
  have hbx : W1.cell? ⟨w.heap.size, 0, none⟩ = some (.slice B b.length d) := by rw [hW1]; exact box_cell _ _ _ _ _ rfl
  have HCL := Lib.hid (clone_any A c a W1 (ha.below hb1) (by omega))
  have HDE := Lib.hid (fun v W (ho : OwnI W W1.heap.size v a) (h : Below W1.heap.size W1 W) => wdel_any B d w.heap.size v a b W1 W ho h (hb.below hb1) hbx hlen)
  have HB1 := Lib.hid hb1
  clear ha hb hb1 hbx
  go_enter Try.func73, Try.ntmps73
  rw [hW1] at HCL
  go_wp2_with fail
  refine HCL.out.mono ?_
  rw [← hW1]
  rintro e w2 ⟨v, rfl, ho, hb2⟩
  have HD := Lib.hid (HDE.out v w2 ho hb2)
  clear hW1 HCL ho hb2 HDE
  go_wp2_with fail
  refine HD.out.mono ?_
  rintro e w3 ⟨A3, c3, rfl, hr3, hb3⟩
  have HR3 := Lib.hid hr3
  have HB3 := Lib.hid (below_in HB1.out hb3 HB1.out.size)
  clear hr3 hb3 HD
  go_wp2_with fail
  go_ret
  first | exact ⟨A3, c3, rfl, HR3.out, HB3.out⟩ | exact ⟨A3, ⟨_, rfl⟩, HR3.out, HB3.out⟩
set_option maxRecDepth 100000 in
set_option maxHeartbeats 4000000 in
/-- minus -/
theorem rminus_any (A B : Option Addr) (c d : Nat) (a b : List Int) (w : World) (ha : RdI w A a) (hb : RdI w B b) (hlen : a.length ≤ 100000) :
    Calls Try.prog 74 #[.slice A a.length c, .slice B b.length d] w fun e w' => ∃ A' c', e = .returned (.slice A' (minusL a b).length c') ∧ RdI w' A' (minusL a b) ∧ Below w.heap.size w w' := by
  have hm := ha.1
  have HL := Lib.hid ha
  have HC := Lib.hid (fun x W (h : Below w.heap.size w W) => has_any B d b x W (hb.below h))
  clear ha hb
  go_enter Try.func74, Try.ntmps74
  go_wp2_with fail
  go_loopw [5, 6] (fun ov i wr => ∃ k : Nat, k ≤ a.length ∧ i = .int .i64 k ∧ Hid (OwnI wr w.heap.size ov (minusL (a.take k) b)) ∧ Hid (Below w.heap.size w wr)) (fun _ i _ => a.length - (intOf i).toNat)
  case atStart => exact ⟨0, Nat.zero_le _, rfl, OwnI.nil _ _, Below.refl _ _⟩
  case round =>
    obtain ⟨k, hk, rfl, HO, HB⟩ := hrel
    obtain ⟨A1, c1, rfl⟩ := HO.out.slice
    by_cases hlt : k < a.length
    · have i1 : ((k : Int) < (a.length : Int)) := by omega
      obtain ⟨ad, rfl⟩ := HL.out.addr hlt
      have x0 := HL.out.at_ HB.out hlt
      have hst := minusL_take hlt b
      have hle : (minusL (a.take k) b).length ≤ 100000 := by
        have := minusL_len (a.take k) b
        rw [List.length_take] at this
        omega
      have HST := Lib.hid hst
      have HC1 := Lib.hid (HC.out (numAt a k) wr HB.out)
      obtain ⟨out, hout⟩ : ∃ out, out = minusL (a.take k) b := ⟨_, rfl⟩
      rw [← hout] at HO HST hle ⊢
      clear hst hout
      go_wp2_with fail
      refine HC1.out.mono ?_
      rintro e w1 ⟨rfl, rfl⟩
      clear HC1
      by_cases hx : numAt a k ∈ b
      · rw [decide_eq_true hx]
        have HT := Lib.hid (show minusL (a.take (k + 1)) b = out by rw [HST.out, if_pos hx, List.append_nil])
        clear hx
        go_wp2_with fail
        go_roundw
        case rel => exact ⟨k + 1, by omega, by go_num, by rw [HT.out]; exact HO.out, HB.out⟩
        case measure => simp [intOf]; omega
      · rw [decide_eq_false hx]
        have HT := Lib.hid (show minusL (a.take (k + 1)) b = out ++ [numAt a k] by rw [HST.out, if_neg hx])
        clear hx
        go_wp2_with (at_builtin; go_must (refine wp_appI rfl _ _ rfl w wr (.slice A1 out.length c1) out (numAt a k) rfl rfl HO.out (by omega) HB.out ?_); intro A3 c3 w3 HO3 HB3)
        go_roundw
        case rel => exact ⟨k + 1, by omega, by go_num, by rw [HT.out]; exact HO3.out, HB3.out⟩
        case measure => simp [intOf]; omega
    · have hkl : k = a.length := by omega
      subst hkl
      rw [List.take_length] at HO
      have i1 : ¬ ((a.length : Int) < (a.length : Int)) := by omega
      go_wp2_with fail
      go_ret
      exact ⟨A1, ⟨_, rfl⟩, HO.out.rdI, HB.out⟩
end Go.Proofs.Ytoeiongnjogpeaa
