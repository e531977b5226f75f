/- Proved here: Cut of the package flow returns the edges that lead out of the least shut set. Condition: accepted edges. -/
import Derived.Test.YtambnjhopijkfaaMaxCut
import Derived.Maps.Own
namespace Go.Proofs.Ytambnjhopijkfaa
open Go.RowKit
theorem stepOf (o : Option (Int × Bool)) : ∃ q : Int × Bool, (o.map stepV).getD (stepV (0, false)) = .agg #[.int .i64 q.1, .bool q.2] := by
  cases o with
  | none => exact ⟨(0, false), rfl⟩
  | some q => exact ⟨q, rfl⟩
theorem cutOf_le (l : List Edge) (T : Int → Bool) (k : Nat) : (((List.range k).filter (fun i => T (edAt l i).src && !T (edAt l i).dst)).map Int.ofNat).length ≤ k := by
  rw [List.length_map]
  have := List.length_filter_le (fun i => T (edAt l i).src && !T (edAt l i).dst) (List.range k)
  rwa [List.length_range] at this
def cutTo (l : List Edge) (T : Int → Bool) (k : Nat) : List Int := ((List.range k).filter (fun i => T (edAt l i).src && !T (edAt l i).dst)).map Int.ofNat

set_option maxRecDepth 100000 in
set_option maxHeartbeats 2000000 in
/-- flow.Cut -/
theorem cut_any (A : Option Addr) (c : Nat) (l : List Edge) (s t : Int) (w : World) (hl : RdE w A l) (hr : Right l) :
    Calls Try.prog 21 #[.slice A l.length c, .int .i64 s, .int .i64 t] w fun e w' => ∃ v, e = .returned v ∧ OwnS 3 1 w' w.heap.size v (cutL l s t).length ((cutL l s t).map (Value.int .i64)) ∧ Below w.heap.size w w' := by
  have hm := hl.1
  by_cases hst : s = t
  · have he : (s == t) = true := by simpa using hst
    have HZ := Lib.hid (show cutL l s t = [] by rw [hst]; exact cutL_same l t)
    clear hst hl
    go_enter Try.func21, Try.ntmps21
    go_wp2
    go_ret
    exact ⟨_, rfl, by rw [HZ.out]; exact OwnS.nil _ _ _ _, Below.refl _ _⟩
  · have he : (s == t) = false := by simpa using hst
    have h200 := hr.len
    have HC := Lib.hid (find_ne A c l s t w hl hr hst)
    have HL := Lib.hid hl
    clear hst hl hr
    go_enter Try.func21, Try.ntmps21
    go_wp2_with fail
    refine HC.out.mono ?_
    rintro e w1 ⟨v, f, S, rfl, ho, hmx, hb⟩
    obtain ⟨A1, c1, rfl, _, _⟩ := ho.slice
    have hv := reach_any A A1 c c1 l f s w1 (HL.out.below hb) ho.rdI hmx.flow.len h200
    rw [hmx.flow.len] at hv
    have HV := Lib.hid hv
    have HMX := Lib.hid hmx
    have HB := Lib.hid hb
    clear hv ho hmx hb
    go_wp2_with fail
    refine HV.out.mono ?_
    rintro e w2 ⟨nm, m, ord, rfl, hi, hbfs, hshut, hb2⟩
    have hmo := hbfs.maxF HMX.out hshut
    have hcut : cutL l s t = cutTo l (inS ord) l.length := cutL_of hmo
    have hkey : ∀ k, (m k).isSome = inS ord k := fun k => by
      unfold inS; rw [Bool.eq_iff_iff]; simp [hbfs.keys k]
    have HCUT := Lib.hid hcut
    have HKEY := Lib.hid hkey
    have HIM := Lib.hid hi
    have HB2 := Lib.hid (below_in HB.out hb2 HB.out.size)
    have HSZ := Lib.hid (show w.heap.size ≤ w1.heap.size ∧ w1.heap.size < w2.heap.size from ⟨HB.out.size, hi.lt⟩)
    clear hi hbfs hshut hb2 hmo hcut hkey HMX HB HV
    go_wp2
    go_loopw [8, 27] (fun ov i wr => ∃ k : Nat, k ≤ l.length ∧ i = .int .i64 k ∧ Hid (OwnS 3 1 wr w2.heap.size ov (cutTo l (inS ord) k).length ((cutTo l (inS ord) k).map (Value.int .i64))) ∧ Hid (Below w2.heap.size w2 wr)) (fun _ i _ => l.length - (intOf i).toNat)
    case atStart => exact ⟨0, Nat.zero_le _, rfl, OwnS.nil _ _ _ _, Below.refl _ _⟩
    case round =>
      obtain ⟨k, hk, rfl, HO, HBW⟩ := hrel
      by_cases hlt : k < l.length
      · obtain ⟨a, rfl⟩ := HL.out.addr hlt
        have hbw : Below w.heap.size w wr := HB2.out.trans (HBW.out.mono HB2.out.size)
        obtain ⟨x0, x1, x2, x3⟩ := HL.out.at_ hbw hlt
        have him : IMap.IM wr w1.heap.size nm (fun k => (m k).map stepV) := HIM.out.below HBW.out HSZ.out.2
        have hlk1 := (him.alloc (.cells #[.int .i64 (edAt l k).id, .int .i64 (edAt l k).src, .int .i64 (edAt l k).dst, .int .i64 (edAt l k).cost] 34)).lookup_ok (P := Try.prog) Try.underlying43 Try.underlying3 (z := stepV (0, false)) (by kernel_rfl) (edAt l k).src
        obtain ⟨q1, hq1⟩ := stepOf (m (edAt l k).src)
        obtain ⟨q2, hq2⟩ := stepOf (m (edAt l k).dst)
        have hlk2 := ((him.alloc (.cells #[.int .i64 (edAt l k).id, .int .i64 (edAt l k).src, .int .i64 (edAt l k).dst, .int .i64 (edAt l k).cost] 34)).alloc (.cells #[.int .i64 q1.1, .bool q1.2] 46)).lookup_ok (P := Try.prog) Try.underlying43 Try.underlying3 (z := stepV (0, false)) (by kernel_rfl) (edAt l k).dst
        rw [hq1] at hlk1
        rw [hq2] at hlk2
        rw [Option.isSome_map, HKEY.out] at hlk1 hlk2
        have hstep : cutTo l (inS ord) (k + 1) = cutTo l (inS ord) k ++ (if inS ord (edAt l k).src && !inS ord (edAt l k).dst then [(k : Int)] else []) := cutOf_take l (inS ord) k
        have hle : (cutTo l (inS ord) k).length ≤ k := cutOf_le l (inS ord) k
        have HBW' := Lib.hid (((HBW.out.alloc HBW.out.size (.cells #[.int .i64 (edAt l k).id, .int .i64 (edAt l k).src, .int .i64 (edAt l k).dst, .int .i64 (edAt l k).cost] 34)).alloc (by have := HBW.out.size; simp; omega) (.cells #[.int .i64 q1.1, .bool q1.2] 46)).alloc (by have := HBW.out.size; simp; omega) (.cells #[.int .i64 q2.1, .bool q2.2] 46))
        have HO' := Lib.hid (((HO.out.alloc (.cells #[.int .i64 (edAt l k).id, .int .i64 (edAt l k).src, .int .i64 (edAt l k).dst, .int .i64 (edAt l k).cost] 34)).alloc (.cells #[.int .i64 q1.1, .bool q1.2] 46)).alloc (.cells #[.int .i64 q2.1, .bool q2.2] 46))
        have HZ := Lib.hid HBW.out.size
        obtain ⟨A2, c2, rfl, _, _⟩ := HO.out.slice
        clear him hq1 hq2 hbw HO HBW
        have hcase : inS ord (edAt l k).src = false ∨ (inS ord (edAt l k).src = true ∧ inS ord (edAt l k).dst = true) ∨ (inS ord (edAt l k).src = true ∧ inS ord (edAt l k).dst = false) := by
          cases inS ord (edAt l k).src <;> cases inS ord (edAt l k).dst <;> simp
        rcases hcase with h1 | ⟨h1, h2⟩ | ⟨h1, h2⟩
        · rw [h1] at hstep hlk1
          simp only [Bool.false_and, Bool.false_eq_true, if_false, List.append_nil] at hstep
          have HT := Lib.hid hstep
          clear hstep h1
          go_wp2
          go_roundw
          case rel => exact ⟨k + 1, by omega, by go_num, by rw [HT.out]; exact HO'.out, HBW'.out⟩
          case measure => simp [intOf]; omega
        · rw [h1, h2] at hstep
          rw [h1] at hlk1
          rw [h2] at hlk2
          simp only [Bool.not_true, Bool.and_false, Bool.false_eq_true, if_false, List.append_nil] at hstep
          have HT := Lib.hid hstep
          clear hstep h1 h2
          go_wp2
          go_roundw
          case rel => exact ⟨k + 1, by omega, by go_num, by rw [HT.out]; exact HO'.out, HBW'.out⟩
          case measure => simp [intOf]; omega
        · rw [h1, h2] at hstep
          rw [h1] at hlk1
          rw [h2] at hlk2
          simp only [Bool.not_false, Bool.and_true, if_true] at hstep
          have HT := Lib.hid hstep
          clear hstep h1 h2
          go_wp2_with (at_builtin; refine OwnS.wp_append rfl _ _ 23 rfl 3 (.int .i64 0) 1 8 Try.underlying23 (by kernel_rfl) rfl (by omega) (by omega) w2.heap.size (cutTo l (inS ord) k).length _ ((cutTo l (inS ord) k).map (Value.int .i64)) rfl (HO'.out.alloc _) ⟨_, 0, none⟩ 1 [.int .i64 (k : Int)] rfl rfl (box_cells _ #[.int .i64 (k : Int)] 3 _ (by simp)) (by simp [Value.oneCell']) (by omega) (by have := HZ.out; simp; omega) ?_)
          intro v' w3 ho3 hg3 _
          have hb3 := (HBW'.out.alloc (by have := HBW'.out.size; have := HZ.out; simp; omega) (.cells #[.int .i64 (k : Int)] 3)).grown hg3 (by have := HZ.out; simp; omega) (fun j hj => (HO'.out.block hj).1)
          have ho4 : OwnS 3 1 w3 w2.heap.size v' (cutTo l (inS ord) (k + 1)).length ((cutTo l (inS ord) (k + 1)).map (Value.int .i64)) := by
            rw [HT.out, List.map_append, List.length_append]
            exact ho3
          have HO4 := Lib.hid ho4
          have HB3 := Lib.hid hb3
          clear ho3 hg3 ho4 hb3 hlk1 hlk2
          go_wp2
          go_roundw
          case rel => exact ⟨k + 1, by omega, by go_num, HO4.out, HB3.out⟩
          case measure => simp [intOf]; omega
      · have hkl : k = l.length := by omega
        subst hkl
        go_wp2
        go_ret
        exact ⟨_, rfl, by rw [HCUT.out]; exact HO.out.mono HB2.out.size, HB2.out.trans (HBW.out.mono HB2.out.size)⟩
end Go.Proofs.Ytambnjhopijkfaa
