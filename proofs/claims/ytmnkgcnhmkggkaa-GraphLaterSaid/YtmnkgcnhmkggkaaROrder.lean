/- Proved here: the reference function Order of chapter 05. Condition: the slice reads as accepted edges. -/
import Derived.Test.YtmnkgcnhmkggkaaNodes5
import Derived.Deep.DeepMust
namespace Go.Proofs.Ytmnkgcnhmkggkaa
open Go.RowKit
theorem freeB_split (l : List Edge) (out : List Int) (n : Int) : freeB l out n = (!decide (n ∈ out) && freeL l out n) := rfl
theorem full_of {l : List Edge} {out : List Int} (h : OInv l out) (hn : ¬ out.length < (nodesS l).length) : ∀ n ∈ nodesL l, n ∈ out := fun n hm => Classical.byContradiction fun hno => by
  have hnd : (n :: out).Nodup := List.nodup_cons.2 ⟨hno, h.nodup⟩
  have := IMap.nodup_le (es := nodesS l) hnd (fun x hx => by
    rcases List.mem_cons.1 hx with rfl | hx
    · exact (nodesS_mem l _).2 hm
    · exact (nodesS_mem l _).2 (h.sub x hx))
  simp at this
  omega
theorem lack_of {l : List Edge} {out : List Int} (h : out.length < (nodesS l).length) : ∃ n ∈ nodesL l, n ∉ out := Classical.byContradiction fun hno => by
  have := IMap.nodup_le (es := out) (sorted_nodup (nodesS_sorted l)) (fun x hx => Classical.byContradiction fun hx' => hno ⟨x, (nodesS_mem l x).1 hx, hx'⟩)
  omega
theorem next_at {l : List Edge} {out : List Int} {k : Nat} (hk : k < (nodesS l).length) (hf : freeB l out (numAt (nodesS l) k) = true) (hno : ∀ i, i < k → freeB l out (numAt (nodesS l) i) = false) : IsNext l out (numAt (nodesS l) k) := by
  have hmem : ∀ i, i < (nodesS l).length → numAt (nodesS l) i ∈ nodesS l := fun i hi => List.mem_of_getElem? (numAt_eq hi)
  refine ⟨(nodesS_mem l _).1 (hmem k hk), hf, fun m hm hfm => ?_⟩
  obtain ⟨j, hj, he⟩ := List.mem_iff_getElem.1 ((nodesS_mem l m).2 hm)
  have hj2 := numAt_eq hj
  rw [List.getElem?_eq_getElem hj, he] at hj2
  have hmj := Option.some.inj hj2
  rcases Nat.lt_trichotomy j k with h | h | h
  · have := hno j h
    rw [← hmj, hfm] at this
    cases this
  · subst h; omega
  · have hp := List.pairwise_iff_getElem.1 (nodesS_sorted l) k j hk hj h
    have hk2 := numAt_eq hk
    rw [List.getElem?_eq_getElem hk] at hk2
    have := Option.some.inj hk2
    omega
set_option maxRecDepth 100000 in
set_option maxHeartbeats 4000000 in
theorem rorder_any (A : Option Addr) (c : Nat) (l : List Edge) (w : World) (hl : RdE w A l) (h200 : l.length ≤ 1000) :
    Calls Try.prog 21 #[.slice A l.length c] w fun e w' => ∃ A' c', e = .returned (.tuple #[.slice A' (orderL l).1.length c', .int .i64 (orderL l).2]) ∧ RdI w' A' (orderL l).1 ∧ Below w.heap.size w w' := by
  have hm := hl.1
  have HL := Lib.hid hl
  have HC := Lib.hid (nodes_any A c l w hl h200)
  have hnl := nodesS_len l
  clear hl
  go_enter Try.func21, Try.ntmps21
  go_wp2_with fail
  refine HC.out.mono ?_
  rintro e w1 ⟨N, cn, rfl, hrn, hb⟩
  have HN := Lib.hid hrn
  have HB1 := Lib.hid hb
  clear hrn hb HC
  go_wp2_with fail
  go_loopg [5] (nodesS l).length (fun g ov wr => ∃ out : List Int, g + out.length = (nodesS l).length ∧ Hid (OInv l out) ∧ Hid (OwnI wr w1.heap.size ov out) ∧ Hid (Below w1.heap.size w1 wr))
  case atStart => exact ⟨[], by simp, OInv.nil l, OwnI.nil _ _, Below.refl _ _⟩
  case round =>
    obtain ⟨out, hg, HI, HO, HB⟩ := hrel
    obtain ⟨A1, c1, rfl⟩ := HO.out.slice
    by_cases hlt : out.length < (nodesS l).length
    · have i1 : ((out.length : Int) < ((nodesS l).length : Int)) := by omega
      go_wp2_with fail
      go_loopw [5, 7] (fun ov i wr => ∃ (k : Nat) (out2 : List Int), k ≤ (nodesS l).length ∧ i = .int .i64 k ∧ Hid (OwnI wr w1.heap.size ov out2) ∧ Hid (Below w1.heap.size w1 wr) ∧
        ((out2 = out ∧ Hid (∀ i, i < k → freeB l out (numAt (nodesS l) i) = false)) ∨ ∃ x, out2 = out ++ [x] ∧ Hid (IsNext l out x))) (fun _ i _ => (nodesS l).length - (intOf i).toNat)
      case atStart => exact ⟨0, out, Nat.zero_le _, rfl, HO.out, HB.out, .inl ⟨rfl, fun i h => by omega⟩⟩
      case round =>
        clear HO HB
        obtain ⟨k, out2, hk, rfl, HO, HB, hcase⟩ := hrel
        obtain ⟨A2, c2, rfl⟩ := HO.out.slice
        by_cases hkl : k < (nodesS l).length
        · have i2 : ((k : Int) < ((nodesS l).length : Int)) := by omega
          rcases hcase with ⟨rfl, HF⟩ | ⟨x, rfl, HX⟩
          · obtain ⟨a, rfl⟩ := HN.out.addr hkl
            have c0 := HN.out.at_ HB.out hkl
            have t1 : (out2.length == out2.length) = true := by simp
            have HH := Lib.hid (has_any A2 c2 out2 (numAt (nodesS l) k) _ HO.out.rdI)
            have HFR := Lib.hid (free_any A A2 c c2 l out2 (numAt (nodesS l) k) _ (HL.out.below (below_in HB1.out HB.out HB1.out.size)) HO.out.rdI)
            go_wp2_with fail
            refine HH.out.mono ?_
            rintro e w2 ⟨rfl, rfl⟩
            by_cases hin : numAt (nodesS l) k ∈ out2
            · rw [decide_eq_true hin]
              have HF2 := Lib.hid (show ∀ i, i < k + 1 → freeB l out2 (numAt (nodesS l) i) = false from fun i hi => by
                rcases Nat.lt_or_ge i k with h | h
                · exact HF.out i h
                · have : i = k := by omega
                  subst this
                  rw [freeB_split, decide_eq_true hin]; rfl)
              clear hin HH HFR
              go_wp2_with fail
              go_roundw
              case rel => exact ⟨k + 1, out2, by omega, by go_num, HO.out, HB.out, .inl ⟨rfl, HF2.out⟩⟩
              case measure => simp [intOf]; omega
            · rw [decide_eq_false hin]
              have HNI := Lib.hid hin
              clear hin HH
              go_wp2_with fail
              refine HFR.out.mono ?_
              rintro e w2 ⟨rfl, rfl⟩
              by_cases hfr : freeL l out2 (numAt (nodesS l) k) = true
              · rw [hfr]
                have HX := Lib.hid (next_at hkl (by rw [freeB_split, decide_eq_false HNI.out, hfr]; rfl) HF.out)
                have hol : out2.length ≤ 1000000 := by omega
                clear hfr HFR
                go_wp2_with (at_builtin; go_must (refine wp_appI rfl _ _ rfl w1 wr (.slice A2 out2.length c2) out2 (numAt (nodesS l) k) rfl rfl HO.out hol HB.out ?_))
                intro A4 c4 w4 HO4 HB4
                go_wp2_with fail
                go_roundw
                case rel => exact ⟨k + 1, out2 ++ [numAt (nodesS l) k], by omega, by go_num, HO4.out, HB4.out, .inr ⟨_, rfl, HX.out⟩⟩
                case measure => simp [intOf]; omega
              · have hfr' : freeL l out2 (numAt (nodesS l) k) = false := by simpa using hfr
                rw [hfr']
                have HF2 := Lib.hid (show ∀ i, i < k + 1 → freeB l out2 (numAt (nodesS l) i) = false from fun i hi => by
                  rcases Nat.lt_or_ge i k with h | h
                  · exact HF.out i h
                  · have : i = k := by omega
                    subst this
                    rw [freeB_split, hfr', Bool.and_false])
                clear hfr hfr' HFR
                go_wp2_with fail
                go_roundw
                case rel => exact ⟨k + 1, out2, by omega, by go_num, HO.out, HB.out, .inl ⟨rfl, HF2.out⟩⟩
                case measure => simp [intOf]; omega
          · have e1 : (out ++ [x]).length = out.length + 1 := by simp
            rw [e1] at HO ⊢
            have t1 : (out.length + 1 == out.length) = false := by simp
            have t2 : (((out.length : Int) + 1) == (out.length : Int)) = false := by simp; omega
            have HI2 := Lib.hid (HI.out.snoc HX.out)
            clear e1
            go_wp2_with fail
            go_roundg ((nodesS l).length - (out.length + 1))
            case measure => omega
            case rel => exact ⟨out ++ [x], by simp; omega, HI2.out, HO.out, HB.out⟩
        · have i2 : ¬ ((k : Int) < ((nodesS l).length : Int)) := by omega
          rcases hcase with ⟨rfl, HF⟩ | ⟨x, rfl, HX⟩
          · obtain ⟨n, hn, hn'⟩ := lack_of hlt
            have HE := Lib.hid (HI.out.stuck n hn hn' (fun m hm => by
              obtain ⟨j, hj, he⟩ := List.mem_iff_getElem.1 ((nodesS_mem l m).2 hm)
              have hj2 := numAt_eq hj
              rw [List.getElem?_eq_getElem hj, he] at hj2
              rw [Option.some.inj hj2]
              exact HF.out j (by omega)))
            clear hn hn'
            have t1 : (out2.length == out2.length) = true := by simp
            go_wp2_with fail
            go_ret2
            exact ⟨none, ⟨0, by rw [HE.out]; rfl⟩, by rw [HE.out]; exact ⟨by simp, by simp⟩, below_in HB1.out HB.out HB1.out.size⟩
          · have e1 : (out ++ [x]).length = out.length + 1 := by simp
            rw [e1] at HO ⊢
            have t1 : (out.length + 1 == out.length) = false := by simp
            have t2 : (((out.length : Int) + 1) == (out.length : Int)) = false := by simp; omega
            have HI2 := Lib.hid (HI.out.snoc HX.out)
            clear e1
            go_wp2_with fail
            go_roundg ((nodesS l).length - (out.length + 1))
            case measure => omega
            case rel => exact ⟨out ++ [x], by simp; omega, HI2.out, HO.out, HB.out⟩
    · have HE := Lib.hid (HI.out.done (full_of HI.out hlt))
      have i1 : ¬ ((out.length : Int) < ((nodesS l).length : Int)) := by omega
      go_wp2_with fail
      go_ret2
      exact ⟨A1, ⟨c1, by rw [HE.out]; rfl⟩, by rw [HE.out]; exact HO.out.rdI, below_in HB1.out HB.out HB1.out.size⟩
end Go.Proofs.Ytmnkgcnhmkggkaa
