/- Proved here: the reference functions Cut and (for one node) Find return what they say. Condition: accepted edges. -/
import Derived.Test.YtambnjhopijkfaaRFind
import Derived.Test.YtambnjhopijkfaaCut
namespace Go.Proofs.Ytambnjhopijkfaa
open Go.RowKit
/-- ref06.Find, one node -/
theorem rfind_eq (A : Option Addr) (c : Nat) (l : List Edge) (s : Int) (w : World) (h200 : l.length ≤ 200) :
    Calls Try.prog 30 #[.slice A l.length c, .int .i64 s, .int .i64 s] w fun e w' => ∃ v, e = .returned v ∧ OwnS 3 1 w' w.heap.size v l.length ((zeros l.length).map (Value.int .i64)) ∧ Below w.heap.size w w' := by
  have hmk : ∀ W : World, (Instr.makeSlice 23 (.int .i64 (l.length : Int)) (.int .i64 (l.length : Int))).run Try.prog W = .ok (.slice (some ⟨W.heap.size, 0, none⟩) l.length l.length) (W.alloc (.cells (madeCells #[.int .i64 0] l.length) 3)) :=
    fun W => run_make_row' 23 3 (.int .i64 0) 8 Try.underlying23 (by kernel_rfl) rfl .i64 .i64 l.length (by omega) (by omega) W
  go_enter Try.func30, Try.ntmps30
  go_wp2_with fail
  go_ret
  refine ⟨_, rfl, ⟨by simp [zeros], _, l.length, rfl, Nat.le_refl _, by simp only [maxLen]; omega, .inr ⟨w.heap.size, 0, madeCells #[.int .i64 0] l.length, rfl, Nat.le_refl _, heap_alloc_new _ _, by simp [size_madeCells], fun j u hj => ?_⟩⟩, (Below.refl _ _).alloc (Nat.le_refl _) _⟩
  have hjl : j < l.length := by
    have := (List.getElem?_eq_some_iff.1 hj).1
    simpa [zeros] using this
  simp [zeros, hjl] at hj
  subst hj
  simp [madeCells, hjl, Nat.mod_one]
set_option maxRecDepth 100000 in
set_option maxHeartbeats 4000000 in
/-- ref06.Cut -/
theorem rcut_any (A : Option Addr) (c : Nat) (l : List Edge) (s t : Int) (w : World) (hl : RdE w A l) (hr : Right l) :
    Calls Try.prog 22 #[.slice A l.length c, .int .i64 s, .int .i64 t] w fun e w' => ∃ v, e = .returned v ∧ OwnS 3 1 w' w.heap.size v (cutL l s t).length ((cutL l s t).map (Value.int .i64)) ∧ Below w.heap.size w w' := by
  have hm := hl.1
  by_cases hst : s = t
  · have he : (s == t) = true := by simpa using hst
    have HZ := Lib.hid (show cutL l s t = [] by rw [hst]; exact cutL_same l t)
    clear hst hl
    go_enter Try.func22, Try.ntmps22
    go_wp2
    go_ret
    exact ⟨_, rfl, by rw [HZ.out]; exact OwnS.nil _ _ _ _, Below.refl _ _⟩
  · have he : (s == t) = false := by simpa using hst
    have h200 := hr.len
    have HC := Lib.hid (rfind_ne A c l s t w hl hr hst)
    have HL := Lib.hid hl
    clear hst hl hr
    go_enter Try.func22, Try.ntmps22
    go_wp2_with fail
    refine HC.out.mono ?_
    rintro e w1 ⟨v, f, S, rfl, ho, hmx, hb⟩
    obtain ⟨A1, c1, rfl, _, _⟩ := ho.slice
    have hv := search_any A A1 c c1 l f s w1 (HL.out.below hb) ho.rdI hmx.flow.len h200
    rw [hmx.flow.len] at hv
    have HV := Lib.hid hv
    have HMX := Lib.hid hmx
    have HB := Lib.hid hb
    clear hv ho hmx hb
    go_wp2_with fail
    refine HV.out.mono ?_
    rintro e w2 ⟨v1, v2, m, ord, rfl, hsi, hshut⟩
    obtain ⟨A2, c2, rfl, _, _⟩ := hsi.o1.slice
    obtain ⟨A3, c3, rfl, _, _⟩ := hsi.o2.slice
    have hmo := hsi.bfs.maxF HMX.out hshut
    have hcut : cutL l s t = cutTo l (inS ord) l.length := cutL_of hmo
    have HCUT := Lib.hid hcut
    have HB2 := Lib.hid (below_in HB.out hsi.below HB.out.size)
    have HHAS := Lib.hid (fun x W (h : Below w2.heap.size w2 W) => has_any A2 c2 ord x W (hsi.o1.rdI.below h))
    clear hsi hshut hmo hcut HMX HB HV
    go_wp2_with fail
    go_loopw [7, 10] (fun ov i wr => ∃ k : Nat, k ≤ l.length ∧ i = .int .i64 k ∧ Hid (OwnS 3 1 wr w2.heap.size ov (cutTo l (inS ord) k).length ((cutTo l (inS ord) k).map (Value.int .i64))) ∧ Hid (Below w2.heap.size w2 wr)) (fun _ i _ => l.length - (intOf i).toNat)
    case atStart => exact ⟨0, Nat.zero_le _, rfl, OwnS.nil _ _ _ _, Below.refl _ _⟩
    case round =>
      obtain ⟨k, hk, rfl, HO, HBW⟩ := hrel
      obtain ⟨A4, c4, rfl, _, _⟩ := HO.out.slice
      by_cases hlt : k < l.length
      · have i1 : ((k : Int) < (l.length : Int)) := by omega
        obtain ⟨a, rfl⟩ := HL.out.addr hlt
        have hbw : Below w.heap.size w wr := HB2.out.trans (HBW.out.mono HB2.out.size)
        obtain ⟨x0, x1, x2, x3⟩ := HL.out.at_ hbw hlt
        have hstep : cutTo l (inS ord) (k + 1) = cutTo l (inS ord) k ++ (if inS ord (edAt l k).src && !inS ord (edAt l k).dst then [(k : Int)] else []) := cutOf_take l (inS ord) k
        have hle : (cutTo l (inS ord) k).length ≤ k := cutOf_le l (inS ord) k
        have HZ := Lib.hid HBW.out.size
        clear hbw
        have hcase : inS ord (edAt l k).src = false ∨ (inS ord (edAt l k).src = true ∧ inS ord (edAt l k).dst = true) ∨ (inS ord (edAt l k).src = true ∧ inS ord (edAt l k).dst = false) := by
          cases inS ord (edAt l k).src <;> cases inS ord (edAt l k).dst <;> simp
        rcases hcase with h1 | ⟨h1, h2⟩ | ⟨h1, h2⟩
        · rw [h1] at hstep
          simp only [Bool.false_and, Bool.false_eq_true, if_false, List.append_nil] at hstep
          have HT := Lib.hid hstep
          have H1 := Lib.hid h1
          clear hstep h1
          go_wp2_with fail
          refine (HHAS.out _ _ HBW.out).mono ?_
          rintro e w3 ⟨rfl, rfl⟩
          rw [show decide ((edAt l k).src ∈ ord) = false from H1.out]
          go_wp2_with fail
          go_roundw
          case rel => exact ⟨k + 1, by omega, by go_num, by rw [HT.out]; exact HO.out, HBW.out⟩
          case measure => simp [intOf]; omega
        · rw [h1, h2] at hstep
          simp only [Bool.not_true, Bool.and_false, Bool.false_eq_true, if_false, List.append_nil] at hstep
          have HT := Lib.hid hstep
          have H1 := Lib.hid h1
          have H2 := Lib.hid h2
          clear hstep h1 h2
          go_wp2_with fail
          refine (HHAS.out _ _ HBW.out).mono ?_
          rintro e w3 ⟨rfl, rfl⟩
          rw [show decide ((edAt l k).src ∈ ord) = true from H1.out]
          go_wp2_with fail
          refine (HHAS.out _ _ HBW.out).mono ?_
          rintro e w3 ⟨rfl, rfl⟩
          rw [show decide ((edAt l k).dst ∈ ord) = true from H2.out]
          go_wp2_with fail
          go_roundw
          case rel => exact ⟨k + 1, by omega, by go_num, by rw [HT.out]; exact HO.out, HBW.out⟩
          case measure => simp [intOf]; omega
        · rw [h1, h2] at hstep
          simp only [Bool.not_false, Bool.and_true, if_true] at hstep
          have HT := Lib.hid hstep
          have H1 := Lib.hid h1
          have H2 := Lib.hid h2
          clear hstep h1 h2
          go_wp2_with fail
          refine (HHAS.out _ _ HBW.out).mono ?_
          rintro e w3 ⟨rfl, rfl⟩
          rw [show decide ((edAt l k).src ∈ ord) = true from H1.out]
          go_wp2_with fail
          refine (HHAS.out _ _ HBW.out).mono ?_
          rintro e w3 ⟨rfl, rfl⟩
          rw [show decide ((edAt l k).dst ∈ ord) = false from H2.out]
          go_wp2_with (at_builtin; refine OwnS.wp_append rfl _ _ 23 rfl 3 (.int .i64 0) 1 8 Try.underlying23 (by kernel_rfl) rfl (by omega) (by omega) w2.heap.size (cutTo l (inS ord) k).length _ ((cutTo l (inS ord) k).map (Value.int .i64)) rfl (HO.out.alloc _) ⟨_, 0, none⟩ 1 [.int .i64 (k : Int)] rfl rfl (box_cells _ #[.int .i64 (k : Int)] 3 _ (by simp)) (by simp [Value.oneCell']) (by omega) (by have := HZ.out; simp; omega) ?_)
          intro v' w3 ho3 hg3 _
          have hb3 := (HBW.out.alloc HBW.out.size (.cells #[.int .i64 (k : Int)] 3)).grown hg3 (by have := HZ.out; simp; omega) (fun j hj => (HO.out.block hj).1)
          have ho4 : OwnS 3 1 w3 w2.heap.size v' (cutTo l (inS ord) (k + 1)).length ((cutTo l (inS ord) (k + 1)).map (Value.int .i64)) := by
            rw [HT.out, List.map_append, List.length_append]
            exact ho3
          have HO4 := Lib.hid ho4
          have HB3 := Lib.hid hb3
          clear ho3 hg3 ho4 hb3
          go_wp2_with fail
          go_roundw
          case rel => exact ⟨k + 1, by omega, by go_num, HO4.out, HB3.out⟩
          case measure => simp [intOf]; omega
      · have hkl : k = l.length := by omega
        subst hkl
        have i1 : ¬ ((l.length : Int) < (l.length : Int)) := by omega
        go_wp2_with fail
        go_ret
        exact ⟨_, rfl, by rw [HCUT.out]; exact HO.out.mono HB2.out.size, HB2.out.trans (HBW.out.mono HB2.out.size)⟩
end Go.Proofs.Ytambnjhopijkfaa
