/- Proved here: the law FlowFinds returns true for all arguments that read as edges, and changes nothing that was there before. -/
import Derived.Test.YtambnjhopijkfaaAlive
import Derived.Test.YtambnjhopijkfaaRMax
namespace Go.Proofs.Ytambnjhopijkfaa
open Go.RowKit
theorem zeros_len (n : Nat) : (zeros n).length = n := by simp [zeros]
theorem made_own (W : World) (n : Nat) (hn : n ≤ 200) : OwnS 3 1 (W.alloc (.cells (madeCells #[.int .i64 0] n) 3)) W.heap.size (.slice (some ⟨W.heap.size, 0, none⟩) n n) n ((zeros n).map (Value.int .i64)) := by
  refine ⟨by simp [zeros], _, n, rfl, Nat.le_refl _, by simp only [maxLen]; omega, .inr ⟨W.heap.size, 0, madeCells #[.int .i64 0] n, rfl, Nat.le_refl _, heap_alloc_new _ _, by simp [size_madeCells], fun j u hj => ?_⟩⟩
  have hjl : j < n := by
    have := (List.getElem?_eq_some_iff.1 hj).1
    simpa [zeros] using this
  simp [zeros, hjl] at hj
  subst hj
  simp [madeCells, hjl, Nat.mod_one]
set_option maxRecDepth 100000 in
set_option maxHeartbeats 4000000 in
theorem flowFinds_walk (A : Option Addr) (c : Nat) (l : List Edge) (s t : Int) (w : World) (hl : RdE w A l) :
    Calls Try.prog 5 #[.slice A l.length c, .int .i64 s, .int .i64 t] w fun e w' => e = .returned (.bool true) ∧ Below w.heap.size w w' := by
  have hm := hl.1
  have HA := Lib.hid (alive_any w)
  have HF := Lib.hid (fun W (h : Below w.heap.size w W) => few_any A c l W (hl.below h))
  have HL := Lib.hid hl
  clear hl
  go_enter Try.func5, Try.ntmps5
  go_wp2_with fail
  refine HA.out.mono ?_
  rintro e w1 ⟨rfl, hb1⟩
  have HB1 := Lib.hid hb1
  clear hb1
  go_wp2_with fail
  refine (HF.out _ HB1.out).mono ?_
  rintro e w2 ⟨rfl, hb2⟩
  have HB2 := Lib.hid (HB1.out.trans (hb2.mono HB1.out.size))
  clear hb2
  by_cases hfew : fewB l = true
  · have hr : Right l := by
      simp only [fewB, Bool.and_eq_true] at hfew
      exact rightB_iff.1 hfew.2
    rw [hfew]
    have h200 := hr.len
    have HRR := Lib.hid hr
    clear hr
    by_cases hst : s = t
    · subst hst
      have he : (s == s) = true := by simp
      have hmk : ∀ W : World, (Instr.makeSlice 23 (.int .i64 (l.length : Int)) (.int .i64 (l.length : Int))).run Try.prog W = .ok (.slice (some ⟨W.heap.size, 0, none⟩) l.length l.length) (W.alloc (.cells (madeCells #[.int .i64 0] l.length) 3)) :=
        fun W => run_make_row' 23 3 (.int .i64 0) 8 Try.underlying23 (by kernel_rfl) rfl .i64 .i64 l.length (by omega) (by omega) W
      go_wp2_with fail
      refine (find_eq A c l s w2 (HL.out.below HB2.out) h200).mono ?_
      rintro e w3 ⟨v3, rfl, ho3, hb3⟩
      obtain ⟨A3, c3, rfl, _, _⟩ := ho3.slice
      have hsm := same_any A3 (some ⟨w3.heap.size, 0, none⟩) c3 l.length (zeros l.length) (zeros l.length) _ (ho3.alloc (.cells (madeCells #[.int .i64 0] l.length) 3)).rdI (made_own w3 l.length h200).rdI
      rw [zeros_len] at hsm
      have HS := Lib.hid hsm
      have HB3 := Lib.hid (HB2.out.trans (hb3.mono HB2.out.size))
      clear hb3 ho3 hsm
      go_wp2_with fail
      refine HS.out.mono ?_
      rintro e w5 ⟨rfl, hb5⟩
      have HB5 := Lib.hid (below_in (HB3.out.alloc HB3.out.size (.cells (madeCells #[.int .i64 0] l.length) 3)) hb5 (by have := HB3.out.size; simp; omega))
      clear hb5
      rw [show decide True = true from rfl]
      go_wp2_with fail
      go_ret
      exact ⟨rfl, HB5.out⟩
    · have he : (s == t) = false := by simpa using hst
      have HST := Lib.hid hst
      clear hst
      go_wp2_with fail
      refine (find_ne A c l s t w2 (HL.out.below HB2.out) HRR.out HST.out).mono ?_
      rintro e w3 ⟨v3, f, S, rfl, ho3, hmx, hb3⟩
      obtain ⟨A3, c3, rfl, _, _⟩ := ho3.slice
      have HB3 := Lib.hid (HB2.out.trans (hb3.mono HB2.out.size))
      have hrv := rvalid_any A A3 c c3 l f s t w3 (HL.out.below HB3.out) ho3.rdI HRR.out
      rw [hmx.flow.len, validB_true hmx.flow] at hrv
      have HRV := Lib.hid hrv
      have hru := fun W (h : Below w3.heap.size w3 W) => rvalue_any A A3 c c3 l f s W (HL.out.below (below_in HB3.out h HB3.out.size)) (ho3.rdI.below h) hmx.flow.len
      rw [hmx.flow.len, hmx.flow.wrap HRR.out, ← maxV_of hmx] at hru
      have HRU := Lib.hid hru
      clear hrv hru hmx ho3 hb3
      go_wp2_with fail
      refine HRV.out.mono ?_
      rintro e w4 ⟨rfl, hb4⟩
      have HB4 := Lib.hid (below_in HB3.out hb4 HB3.out.size)
      have HRU2 := Lib.hid (HRU.out _ hb4)
      clear hb4
      go_wp2_with fail
      refine HRU2.out.mono ?_
      rintro e w5 ⟨rfl, rfl⟩
      go_wp2_with fail
      refine (rmax_any A c l s t _ (HL.out.below HB4.out) HRR.out).mono ?_
      rintro e w6 ⟨rfl, hb6⟩
      have HB6 := Lib.hid (HB4.out.trans (hb6.mono HB4.out.size))
      clear hb6
      have gs : (maxV l s t == maxV l s t) = true := by simp
      go_wp2_with fail
      go_ret
      exact ⟨rfl, HB6.out⟩
  · simp only [Bool.not_eq_true] at hfew
    rw [hfew]
    go_wp2_with fail
    go_ret
    exact ⟨rfl, HB2.out⟩
end Go.Proofs.Ytambnjhopijkfaa
