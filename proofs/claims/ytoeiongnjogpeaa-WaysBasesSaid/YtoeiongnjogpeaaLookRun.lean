/- Proved here: the look-up of a run by its number, in the package terrain and in the reference of chapter 10. Condition: the map reads. Written by gen_look.py. -/
import Derived.Test.YtoeiongnjogpeaaMapAll
import Derived.Test.YtoeiongnjogpeaaChecked
namespace Go.Proofs.Ytoeiongnjogpeaa
open Go.RowKit
def findRun (l : List RunM) (i : Int) : Option RunM := l.find? (fun e => decide (e.id = i))
def runR (l : List RunM) (i : Int) : Value := match findRun l i with
  | none => .tuple #[.agg #[.int .i64 0, .int .i64 0, .int .i64 0, .int .i64 0, .int .i64 0, .int .i64 0, .int .i64 0], .bool false]
  | some e => .tuple #[.agg #[.int .i64 e.id, .int .i64 e.op, .int .i64 e.src, .int .i64 e.dst, .int .i64 e.grade, .int .i64 e.zone, .int .i64 e.len], .bool true]
theorem findRun_at {l : List RunM} {i : Int} {k : Nat} (hk : k < l.length) (hp : (runAt l k).id = i) (hno : ∀ j, j < k → (runAt l j).id ≠ i) : findRun l i = some (runAt l k) := by
  unfold findRun
  rw [List.find?_eq_some_iff_getElem]
  refine ⟨decide_eq_true hp, k, hk, ?_, fun j hj => ?_⟩
  · have := runAt_eq hk
    rw [List.getElem?_eq_getElem hk] at this
    exact Option.some.inj this
  · have := runAt_eq (Nat.lt_trans hj hk)
    rw [List.getElem?_eq_getElem (Nat.lt_trans hj hk)] at this
    rw [Option.some.inj this]
    simpa using hno j hj
theorem findRun_no {l : List RunM} {i : Int} (hno : ∀ j, j < l.length → (runAt l j).id ≠ i) : findRun l i = none := by
  unfold findRun
  rw [List.find?_eq_none]
  intro e he
  obtain ⟨j, hj, rfl⟩ := mem_runAt he
  simpa using hno j hj
theorem findRun_some {l : List RunM} {i : Int} {e : RunM} (h : findRun l i = some e) : e ∈ l ∧ e.id = i := by
  unfold findRun at h
  exact ⟨List.mem_of_find?_eq_some h, by have := List.find?_some h; simpa using this⟩
theorem findRun_none {l : List RunM} {i : Int} (h : findRun l i = none) : ∀ e ∈ l, e.id ≠ i := by
  unfold findRun at h
  intro e he
  have := List.find?_eq_none.1 h e he
  simpa using this
theorem findRun_ix {l : List RunM} {i : Int} {e : RunM} (h : findRun l i = some e) : ∃ k, k < l.length ∧ runAt l k = e ∧ (runAt l k).id = i ∧ ∀ j, j < k → (runAt l j).id ≠ i := by
  unfold findRun at h
  rw [List.find?_eq_some_iff_getElem] at h
  obtain ⟨h1, k, hk, h2, h3⟩ := h
  have hat : ∀ j (hj : j < l.length), runAt l j = l[j] := fun j hj => by
    have := runAt_eq hj
    rw [List.getElem?_eq_getElem hj] at this
    exact (Option.some.inj this).symm
  refine ⟨k, hk, (hat k hk).trans h2, ?_, fun j hj => ?_⟩
  · rw [hat k hk, h2]; exact of_decide_eq_true h1
  · rw [hat j (Nat.lt_trans hj hk)]
    have := h3 j hj
    simpa using this
theorem run_stored {W : World} {H : Nat} {b0 b1 b2 b3 b4 b5 b6 : Int} (h : W.heap[H]? = some (.cells #[.int .i64 b0, .int .i64 b1, .int .i64 b2, .int .i64 b3, .int .i64 b4, .int .i64 b5, .int .i64 b6] 37 (0, 0))) (a0 a1 a2 a3 a4 a5 a6 : Int) : (((((((W.setCell ⟨H, 0, none⟩ (.int .i64 a0)).setCell ⟨H, 1, none⟩ (.int .i64 a1)).setCell ⟨H, 2, none⟩ (.int .i64 a2)).setCell ⟨H, 3, none⟩ (.int .i64 a3)).setCell ⟨H, 4, none⟩ (.int .i64 a4)).setCell ⟨H, 5, none⟩ (.int .i64 a5)).setCell ⟨H, 6, none⟩ (.int .i64 a6)).heap[H]? = some (.cells #[.int .i64 a0, .int .i64 a1, .int .i64 a2, .int .i64 a3, .int .i64 a4, .int .i64 a5, .int .i64 a6] 37 (0, 0)) := by
  have h0 : (W.setCell ⟨H, 0, none⟩ (.int .i64 a0)).heap[H]? = some (.cells #[.int .i64 a0, .int .i64 b1, .int .i64 b2, .int .i64 b3, .int .i64 b4, .int .i64 b5, .int .i64 b6] 37 (0, 0)) := setc_heap h 0 _
  have h1 : ((W.setCell ⟨H, 0, none⟩ (.int .i64 a0)).setCell ⟨H, 1, none⟩ (.int .i64 a1)).heap[H]? = some (.cells #[.int .i64 a0, .int .i64 a1, .int .i64 b2, .int .i64 b3, .int .i64 b4, .int .i64 b5, .int .i64 b6] 37 (0, 0)) := setc_heap h0 1 _
  have h2 : (((W.setCell ⟨H, 0, none⟩ (.int .i64 a0)).setCell ⟨H, 1, none⟩ (.int .i64 a1)).setCell ⟨H, 2, none⟩ (.int .i64 a2)).heap[H]? = some (.cells #[.int .i64 a0, .int .i64 a1, .int .i64 a2, .int .i64 b3, .int .i64 b4, .int .i64 b5, .int .i64 b6] 37 (0, 0)) := setc_heap h1 2 _
  have h3 : ((((W.setCell ⟨H, 0, none⟩ (.int .i64 a0)).setCell ⟨H, 1, none⟩ (.int .i64 a1)).setCell ⟨H, 2, none⟩ (.int .i64 a2)).setCell ⟨H, 3, none⟩ (.int .i64 a3)).heap[H]? = some (.cells #[.int .i64 a0, .int .i64 a1, .int .i64 a2, .int .i64 a3, .int .i64 b4, .int .i64 b5, .int .i64 b6] 37 (0, 0)) := setc_heap h2 3 _
  have h4 : (((((W.setCell ⟨H, 0, none⟩ (.int .i64 a0)).setCell ⟨H, 1, none⟩ (.int .i64 a1)).setCell ⟨H, 2, none⟩ (.int .i64 a2)).setCell ⟨H, 3, none⟩ (.int .i64 a3)).setCell ⟨H, 4, none⟩ (.int .i64 a4)).heap[H]? = some (.cells #[.int .i64 a0, .int .i64 a1, .int .i64 a2, .int .i64 a3, .int .i64 a4, .int .i64 b5, .int .i64 b6] 37 (0, 0)) := setc_heap h3 4 _
  have h5 : ((((((W.setCell ⟨H, 0, none⟩ (.int .i64 a0)).setCell ⟨H, 1, none⟩ (.int .i64 a1)).setCell ⟨H, 2, none⟩ (.int .i64 a2)).setCell ⟨H, 3, none⟩ (.int .i64 a3)).setCell ⟨H, 4, none⟩ (.int .i64 a4)).setCell ⟨H, 5, none⟩ (.int .i64 a5)).heap[H]? = some (.cells #[.int .i64 a0, .int .i64 a1, .int .i64 a2, .int .i64 a3, .int .i64 a4, .int .i64 a5, .int .i64 b6] 37 (0, 0)) := setc_heap h4 5 _
  have h6 : (((((((W.setCell ⟨H, 0, none⟩ (.int .i64 a0)).setCell ⟨H, 1, none⟩ (.int .i64 a1)).setCell ⟨H, 2, none⟩ (.int .i64 a2)).setCell ⟨H, 3, none⟩ (.int .i64 a3)).setCell ⟨H, 4, none⟩ (.int .i64 a4)).setCell ⟨H, 5, none⟩ (.int .i64 a5)).setCell ⟨H, 6, none⟩ (.int .i64 a6)).heap[H]? = some (.cells #[.int .i64 a0, .int .i64 a1, .int .i64 a2, .int .i64 a3, .int .i64 a4, .int .i64 a5, .int .i64 a6] 37 (0, 0)) := setc_heap h5 6 _
  exact h6
theorem run_zcells {W : World} {H : Nat} {b0 b1 b2 b3 b4 b5 b6 : Int} (h : W.heap[H]? = some (.cells #[.int .i64 b0, .int .i64 b1, .int .i64 b2, .int .i64 b3, .int .i64 b4, .int .i64 b5, .int .i64 b6] 37 (0, 0))) : W.cell? ⟨H, 0, none⟩ = some (.int .i64 b0) ∧ W.cell? ⟨H, 1, none⟩ = some (.int .i64 b1) ∧ W.cell? ⟨H, 2, none⟩ = some (.int .i64 b2) ∧ W.cell? ⟨H, 3, none⟩ = some (.int .i64 b3) ∧ W.cell? ⟨H, 4, none⟩ = some (.int .i64 b4) ∧ W.cell? ⟨H, 5, none⟩ = some (.int .i64 b5) ∧ W.cell? ⟨H, 6, none⟩ = some (.int .i64 b6) := by
  refine ⟨?_, ?_, ?_, ?_, ?_, ?_, ?_⟩ <;> simp [World.cell?, h]
theorem run_zfroz {W : World} {H : Nat} {b0 b1 b2 b3 b4 b5 b6 : Int} (h : W.heap[H]? = some (.cells #[.int .i64 b0, .int .i64 b1, .int .i64 b2, .int .i64 b3, .int .i64 b4, .int .i64 b5, .int .i64 b6] 37 (0, 0))) : W.frozen? ⟨H, 0, none⟩ = false ∧ W.frozen? ⟨H, 1, none⟩ = false ∧ W.frozen? ⟨H, 2, none⟩ = false ∧ W.frozen? ⟨H, 3, none⟩ = false ∧ W.frozen? ⟨H, 4, none⟩ = false ∧ W.frozen? ⟨H, 5, none⟩ = false ∧ W.frozen? ⟨H, 6, none⟩ = false := by
  refine ⟨?_, ?_, ?_, ?_, ?_, ?_, ?_⟩ <;> simp [World.frozen?, h]
theorem run_setb {w W : World} {B H : Nat} (h : Below B w W) (hB : B ≤ H) (a0 a1 a2 a3 a4 a5 a6 : Int) : Below B w (((((((W.setCell ⟨H, 0, none⟩ (.int .i64 a0)).setCell ⟨H, 1, none⟩ (.int .i64 a1)).setCell ⟨H, 2, none⟩ (.int .i64 a2)).setCell ⟨H, 3, none⟩ (.int .i64 a3)).setCell ⟨H, 4, none⟩ (.int .i64 a4)).setCell ⟨H, 5, none⟩ (.int .i64 a5)).setCell ⟨H, 6, none⟩ (.int .i64 a6)) := by
  have h0 : Below B w (W.setCell ⟨H, 0, none⟩ (.int .i64 a0)) := setc_below h hB _
  have h1 : Below B w ((W.setCell ⟨H, 0, none⟩ (.int .i64 a0)).setCell ⟨H, 1, none⟩ (.int .i64 a1)) := setc_below h0 hB _
  have h2 : Below B w (((W.setCell ⟨H, 0, none⟩ (.int .i64 a0)).setCell ⟨H, 1, none⟩ (.int .i64 a1)).setCell ⟨H, 2, none⟩ (.int .i64 a2)) := setc_below h1 hB _
  have h3 : Below B w ((((W.setCell ⟨H, 0, none⟩ (.int .i64 a0)).setCell ⟨H, 1, none⟩ (.int .i64 a1)).setCell ⟨H, 2, none⟩ (.int .i64 a2)).setCell ⟨H, 3, none⟩ (.int .i64 a3)) := setc_below h2 hB _
  have h4 : Below B w (((((W.setCell ⟨H, 0, none⟩ (.int .i64 a0)).setCell ⟨H, 1, none⟩ (.int .i64 a1)).setCell ⟨H, 2, none⟩ (.int .i64 a2)).setCell ⟨H, 3, none⟩ (.int .i64 a3)).setCell ⟨H, 4, none⟩ (.int .i64 a4)) := setc_below h3 hB _
  have h5 : Below B w ((((((W.setCell ⟨H, 0, none⟩ (.int .i64 a0)).setCell ⟨H, 1, none⟩ (.int .i64 a1)).setCell ⟨H, 2, none⟩ (.int .i64 a2)).setCell ⟨H, 3, none⟩ (.int .i64 a3)).setCell ⟨H, 4, none⟩ (.int .i64 a4)).setCell ⟨H, 5, none⟩ (.int .i64 a5)) := setc_below h4 hB _
  have h6 : Below B w (((((((W.setCell ⟨H, 0, none⟩ (.int .i64 a0)).setCell ⟨H, 1, none⟩ (.int .i64 a1)).setCell ⟨H, 2, none⟩ (.int .i64 a2)).setCell ⟨H, 3, none⟩ (.int .i64 a3)).setCell ⟨H, 4, none⟩ (.int .i64 a4)).setCell ⟨H, 5, none⟩ (.int .i64 a5)).setCell ⟨H, 6, none⟩ (.int .i64 a6)) := setc_below h5 hB _
  exact h6
set_option maxRecDepth 100000 in
set_option maxHeartbeats 4000000 in
theorem trun1_any (e : RunM) (g : Nat) (i : Int) (w : World) (h : w.cell? ⟨g, 0, none⟩ = some (.int .i64 i)) :
    Calls Try.prog 119 #[.agg #[.int .i64 e.id, .int .i64 e.op, .int .i64 e.src, .int .i64 e.dst, .int .i64 e.grade, .int .i64 e.zone, .int .i64 e.len], .pointer (some ⟨g, 0, none⟩)] w fun e' w' => e' = .returned (.bool (e.id == i)) ∧ Below w.heap.size w w' := by
  have y0 := ((box_below w (.cells #[.int .i64 e.id, .int .i64 e.op, .int .i64 e.src, .int .i64 e.dst, .int .i64 e.grade, .int .i64 e.zone, .int .i64 e.len] 37)).cell (World.block_lt_of_cell? w _ h)).trans h
  go_enter Try.func119, Try.ntmps119
  go_wp2_with fail
  go_ret
  exact ⟨rfl, box_below _ _⟩
set_option maxRecDepth 100000 in
set_option maxHeartbeats 4000000 in
theorem trunix_any (A : Option Addr) (c : Nat) (l : List RunM) (g : Nat) (i : Int) (k0 : Nat) (hno : ∀ j, j < k0 → (runAt l j).id ≠ i) (hyes : k0 < l.length → (runAt l k0).id = i) (w : World) (hl : RdRun w A l) (h : w.cell? ⟨g, 0, none⟩ = some (.int .i64 i)) :
    Calls Try.prog 118 #[.slice A l.length c, .func (.func 119) #[] #[.pointer (some ⟨g, 0, none⟩)]] w fun e w' => e = .returned (.int .i64 (ixOf k0 l.length)) ∧ Below w.heap.size w w' := by
  have hm := hl.1
  have HL := Lib.hid hl
  have HC := Lib.hid (fun W (hb : Below w.heap.size w W) (e : RunM) => trun1_any e g i W ((hb.cell (World.block_lt_of_cell? w _ h)).trans h))
  have HNO := Lib.hid hno
  have HYES := Lib.hid hyes
  clear hl h hno hyes
  go_enter Try.func118, Try.ntmps118
  go_wp2_with fail
  go_loopw [8] (fun i wr => ∃ k : Nat, k ≤ k0 ∧ k ≤ l.length ∧ i = .int .i64 k ∧ Hid (Below w.heap.size w wr)) (fun i _ => l.length - (intOf i).toNat)
  case atStart => exact ⟨0, Nat.zero_le _, Nat.zero_le _, rfl, Below.refl _ _⟩
  case round =>
    obtain ⟨k, hk, hkl, rfl, HB⟩ := hrel
    by_cases hlt : k < l.length
    · have i1 : ((k : Int) < (l.length : Int)) := by omega
      obtain ⟨a, rfl⟩ := HL.out.addr hlt
      obtain ⟨x0, x1, x2, x3, x4, x5, x6⟩ := HL.out.at_ HB.out hlt
      have HC1 := Lib.hid (HC.out wr HB.out (runAt l k))
      go_wp2_with fail
      refine HC1.out.mono ?_
      rintro e w1 ⟨rfl, hb⟩
      have HB1 := Lib.hid (below_in HB.out hb HB.out.size)
      clear hb HC1
      by_cases he : k = k0
      · have he' : ((runAt l k).id == i) = true := by simp [he, HYES.out (he ▸ hlt)]
        have HK := Lib.hid (show ixOf k0 l.length = k by unfold ixOf; rw [if_pos (by omega), he])
        clear he
        go_wp2_with fail
        go_ret
        exact ⟨by rw [HK.out]; rfl, HB1.out⟩
      · have he' : ((runAt l k).id == i) = false := by simpa using HNO.out k (by omega)
        have hk1 : k + 1 ≤ k0 := by omega
        clear he
        go_wp2_with fail
        go_roundw
        case rel => exact ⟨k + 1, hk1, by omega, by go_num, HB1.out⟩
        case measure => simp [intOf]; omega
    · have i1 : ¬ ((k : Int) < (l.length : Int)) := by omega
      have HK := Lib.hid (show ixOf k0 l.length = -1 by unfold ixOf; rw [if_neg (by omega)])
      go_wp2_with fail
      go_ret
      exact ⟨by rw [HK.out]; rfl, HB.out⟩
set_option maxRecDepth 100000 in
set_option maxHeartbeats 4000000 in
theorem trun_any (V : MapA) (m : MapM) (i : Int) (w : World) (hm : RdM w V m) :
    Calls Try.prog 82 #[mapV V m, .int .i64 i] w fun e w' => e = .returned (runR m.runs i) ∧ Below w.heap.size w w' := by
  obtain ⟨N_, L_, R_, B_, nc, lc, rc, bc⟩ := V
  have hl : RdRun w R_ m.runs := hm.runs
  have hlen := hl.1
  obtain ⟨W0, hW0⟩ : ∃ W0, W0 = ((w.alloc (.cells #[.slice N_ m.nodes.length nc, .slice L_ m.lifts.length lc, .slice R_ m.runs.length rc, .slice B_ m.bases.length bc] 27)).alloc (.cells #[.int .i64 i] 3)).alloc (.cells #[.int .i64 0, .int .i64 0, .int .i64 0, .int .i64 0, .int .i64 0, .int .i64 0, .int .i64 0] 37) := ⟨_, rfl⟩
  have hb0 : Below w.heap.size w W0 := by rw [hW0]; exact (((Below.refl _ _).alloc (Nat.le_refl _) _).alloc (by simp) _).alloc (by simp; omega) _
  have hc1 : W0.cell? ⟨w.heap.size + 1, 0, none⟩ = some (.int .i64 i) := by
    have h1 := box_cell (w.alloc (.cells #[.slice N_ m.nodes.length nc, .slice L_ m.lifts.length lc, .slice R_ m.runs.length rc, .slice B_ m.bases.length bc] 27)) #[.int .i64 i] 3 0 _ rfl
    have e1 : (w.alloc (.cells #[.slice N_ m.nodes.length nc, .slice L_ m.lifts.length lc, .slice R_ m.runs.length rc, .slice B_ m.bases.length bc] 27)).heap.size = w.heap.size + 1 := by simp
    rw [e1] at h1
    rw [hW0]
    exact ((box_below _ _).cell (World.block_lt_of_cell? _ _ h1)).trans h1
  have hcm : W0.cell? ⟨w.heap.size, 2, none⟩ = some (.slice R_ m.runs.length rc) := by
    have h1 := box_cell w #[.slice N_ m.nodes.length nc, .slice L_ m.lifts.length lc, .slice R_ m.runs.length rc, .slice B_ m.bases.length bc] 27 2 _ rfl
    have h2 := ((box_below (w.alloc (.cells #[.slice N_ m.nodes.length nc, .slice L_ m.lifts.length lc, .slice R_ m.runs.length rc, .slice B_ m.bases.length bc] 27)) (.cells #[.int .i64 i] 3)).cell (World.block_lt_of_cell? _ _ h1)).trans h1
    rw [hW0]
    exact ((box_below _ _).cell (World.block_lt_of_cell? _ _ h2)).trans h2
  have hz : W0.heap[w.heap.size + 1 + 1]? = some (.cells #[.int .i64 0, .int .i64 0, .int .i64 0, .int .i64 0, .int .i64 0, .int .i64 0, .int .i64 0] 37 (0, 0)) := by
    have h1 := heap_alloc_new ((w.alloc (.cells #[.slice N_ m.nodes.length nc, .slice L_ m.lifts.length lc, .slice R_ m.runs.length rc, .slice B_ m.bases.length bc] 27)).alloc (.cells #[.int .i64 i] 3)) (.cells #[.int .i64 0, .int .i64 0, .int .i64 0, .int .i64 0, .int .i64 0, .int .i64 0, .int .i64 0] 37)
    have e1 : ((w.alloc (.cells #[.slice N_ m.nodes.length nc, .slice L_ m.lifts.length lc, .slice R_ m.runs.length rc, .slice B_ m.bases.length bc] 27)).alloc (.cells #[.int .i64 i] 3)).heap.size = w.heap.size + 1 + 1 := by simp
    rw [e1] at h1
    rw [hW0]; exact h1
  have HL := Lib.hid hl
  have HB0 := Lib.hid hb0
  have HC1 := Lib.hid hc1
  have hlk := hcm
  obtain ⟨k0, hk0, hres⟩ : ∃ k0, k0 ≤ m.runs.length ∧ ((k0 < m.runs.length ∧ (runAt m.runs k0).id = i ∧ (∀ j, j < k0 → (runAt m.runs j).id ≠ i)) ∨ (k0 = m.runs.length ∧ ∀ j, j < k0 → (runAt m.runs j).id ≠ i)) := by
    cases hf : findRun m.runs i with
    | none => exact ⟨_, Nat.le_refl _, .inr ⟨rfl, fun j hj => findRun_none hf _ (runAt_mem hj)⟩⟩
    | some e =>
      obtain ⟨k, h1, h2, h3, h4⟩ := findRun_ix hf
      exact ⟨k, by omega, .inl ⟨h1, h3, h4⟩⟩
  have HIX := Lib.hid (trunix_any R_ rc m.runs (w.heap.size + 1) i k0 (by rcases hres with h | h; exact h.2.2; exact h.2) (fun h => by rcases hres with h' | h'; exact h'.2.1; omega) W0 (hl.below hb0) hc1)
  clear hm hl hb0 hc1
  unfold mapV
  dsimp only
  go_enter Try.func82, Try.ntmps82
  rw [hW0] at hcm HIX
  go_wp2_with fail
  refine HIX.out.mono ?_
  rintro e w1 ⟨rfl, hb⟩
  rw [← hW0] at hb
  have hz1 := (hb.block _ (Array.getElem?_eq_some_iff.1 hz).1).trans hz
  have hcm1 := (hb.cell (World.block_lt_of_cell? _ _ hlk)).trans hlk
  have HB1 := Lib.hid (below_in HB0.out hb HB0.out.size)
  have hsz : w.heap.size ≤ W0.heap.size := HB0.out.size
  have HSZ := Lib.hid hsz
  clear hW0 HIX hcm hlk hb hz HC1 hsz
  rcases hres with ⟨h1, h2, h3⟩ | ⟨h1, h2⟩
  · have e1 : ixOf k0 m.runs.length = (k0 : Int) := by unfold ixOf; rw [if_pos h1]
    rw [e1]
    have i1 : ((k0 : Int) < (m.runs.length : Int)) := by omega
    have i2 : ¬ ((k0 : Int) < 0) := by omega
    obtain ⟨a, rfl⟩ := HL.out.addr h1
    obtain ⟨x0, x1, x2, x3, x4, x5, x6⟩ := HL.out.at_ HB1.out h1
    have HE := Lib.hid (show runR m.runs i = .tuple #[.agg #[.int .i64 (runAt m.runs k0).id, .int .i64 (runAt m.runs k0).op, .int .i64 (runAt m.runs k0).src, .int .i64 (runAt m.runs k0).dst, .int .i64 (runAt m.runs k0).grade, .int .i64 (runAt m.runs k0).zone, .int .i64 (runAt m.runs k0).len], .bool true] by
      unfold runR
      rw [findRun_at h1 h2 h3])
    clear h2 h3
    obtain ⟨hth, hbz, hq, _⟩ := setcs (w := w) #[.int .i64 (runAt m.runs k0).id, .int .i64 (runAt m.runs k0).op, .int .i64 (runAt m.runs k0).src, .int .i64 (runAt m.runs k0).dst, .int .i64 (runAt m.runs k0).grade, .int .i64 (runAt m.runs k0).zone, .int .i64 (runAt m.runs k0).len] HB1.out (H := w.heap.size + 1 + 1) (by omega) hz1 (by simp)
    obtain ⟨W5, hW5⟩ : ∃ W5, W5 = w1.setCells (w.heap.size + 1 + 1) 0 (#[.int .i64 (runAt m.runs k0).id, .int .i64 (runAt m.runs k0).op, .int .i64 (runAt m.runs k0).src, .int .i64 (runAt m.runs k0).dst, .int .i64 (runAt m.runs k0).grade, .int .i64 (runAt m.runs k0).zone, .int .i64 (runAt m.runs k0).len] : Array Value).toList := ⟨_, rfl⟩
    rw [← hW5] at hbz hq
    have HBZ := Lib.hid hbz
    have HW5 := Lib.hid hW5
    clear hW5
    have q0 := hq 0 (.int .i64 (runAt m.runs k0).id) rfl
    have q1 := hq 1 (.int .i64 (runAt m.runs k0).op) rfl
    have q2 := hq 2 (.int .i64 (runAt m.runs k0).src) rfl
    have q3 := hq 3 (.int .i64 (runAt m.runs k0).dst) rfl
    have q4 := hq 4 (.int .i64 (runAt m.runs k0).grade) rfl
    have q5 := hq 5 (.int .i64 (runAt m.runs k0).zone) rfl
    have q6 := hq 6 (.int .i64 (runAt m.runs k0).len) rfl
    clear hz1 hbz hq
    go_wp2_with (refine wpList_store_mid rfl 37 _ _ rfl (w.heap.size + 1 + 1) 0 #[.int .i64 (runAt m.runs k0).id, .int .i64 (runAt m.runs k0).op, .int .i64 (runAt m.runs k0).src, .int .i64 (runAt m.runs k0).dst, .int .i64 (runAt m.runs k0).grade, .int .i64 (runAt m.runs k0).zone, .int .i64 (runAt m.runs k0).len] rfl rfl hth (by kernel_rfl) (by simp [Value.oneCell']) ?_; rw [← HW5.out])
    refine bodyPost_ret (v := .tuple #[.agg #[.int .i64 (runAt m.runs k0).id, .int .i64 (runAt m.runs k0).op, .int .i64 (runAt m.runs k0).src, .int .i64 (runAt m.runs k0).dst, .int .i64 (runAt m.runs k0).grade, .int .i64 (runAt m.runs k0).zone, .int .i64 (runAt m.runs k0).len], .bool true]) (by simp [results, go_sem, q0, q1, q2, q3, q4, q5, q6]) rfl ⟨by rw [HE.out], HBZ.out⟩
  · have e1 : ixOf k0 m.runs.length = -1 := by unfold ixOf; rw [if_neg (by omega)]
    rw [e1]
    have HE := Lib.hid (show runR m.runs i = .tuple #[.agg #[.int .i64 0, .int .i64 0, .int .i64 0, .int .i64 0, .int .i64 0, .int .i64 0, .int .i64 0], .bool false] by
      unfold runR
      rw [findRun_no (fun j hj => h2 j (by omega))])
    clear h2
    obtain ⟨hth, hbz, hq, _⟩ := setcs (w := w) #[.int .i64 0, .int .i64 0, .int .i64 0, .int .i64 0, .int .i64 0, .int .i64 0, .int .i64 0] HB1.out (H := w.heap.size + 1 + 1) (by omega) hz1 (by simp)
    obtain ⟨W5, hW5⟩ : ∃ W5, W5 = w1.setCells (w.heap.size + 1 + 1) 0 (#[.int .i64 0, .int .i64 0, .int .i64 0, .int .i64 0, .int .i64 0, .int .i64 0, .int .i64 0] : Array Value).toList := ⟨_, rfl⟩
    rw [← hW5] at hbz hq
    have HBZ := Lib.hid hbz
    have HW5 := Lib.hid hW5
    clear hW5
    have q0 := hq 0 (.int .i64 0) rfl
    have q1 := hq 1 (.int .i64 0) rfl
    have q2 := hq 2 (.int .i64 0) rfl
    have q3 := hq 3 (.int .i64 0) rfl
    have q4 := hq 4 (.int .i64 0) rfl
    have q5 := hq 5 (.int .i64 0) rfl
    have q6 := hq 6 (.int .i64 0) rfl
    clear hz1 hbz hq
    go_wp2_with (refine wpList_store_mid rfl 37 _ _ rfl (w.heap.size + 1 + 1) 0 #[.int .i64 0, .int .i64 0, .int .i64 0, .int .i64 0, .int .i64 0, .int .i64 0, .int .i64 0] rfl rfl hth (by kernel_rfl) (by simp [Value.oneCell']) ?_; rw [← HW5.out])
    refine bodyPost_ret (v := .tuple #[.agg #[.int .i64 0, .int .i64 0, .int .i64 0, .int .i64 0, .int .i64 0, .int .i64 0, .int .i64 0], .bool false]) (by simp [results, go_sem, q0, q1, q2, q3, q4, q5, q6]) rfl ⟨by rw [HE.out], HBZ.out⟩
set_option maxRecDepth 100000 in
set_option maxHeartbeats 4000000 in
/-- The reference's. -/
theorem rrun_any (V : MapA) (m : MapM) (i : Int) (w : World) (hm : RdM w V m) :
    Calls Try.prog 15 #[mapV V m, .int .i64 i] w fun e w' => e = .returned (runR m.runs i) ∧ Below w.heap.size w w' := by
  obtain ⟨N_, L_, R_, B_, nc, lc, rc, bc⟩ := V
  have hl : RdRun w R_ m.runs := hm.runs
  have hlen := hl.1
  have HL := Lib.hid hl
  have HB0 := Lib.hid (show Below w.heap.size w ((w.alloc (.cells #[.slice N_ m.nodes.length nc, .slice L_ m.lifts.length lc, .slice R_ m.runs.length rc, .slice B_ m.bases.length bc] 27)).alloc (.cells #[.int .i64 0, .int .i64 0, .int .i64 0, .int .i64 0, .int .i64 0, .int .i64 0, .int .i64 0] 37)) from ((Below.refl _ _).alloc (Nat.le_refl _) _).alloc (by simp) _)
  clear hm hl
  unfold mapV
  dsimp only
  go_enter Try.func15, Try.ntmps15
  go_wp2_with fail
  go_loop [6] (fun v => ∃ k : Nat, k ≤ m.runs.length ∧ v = .int .i64 k ∧ Hid (∀ j, j < k → (runAt m.runs j).id ≠ i)) (fun v => m.runs.length - (intOf v).toNat)
  case atStart => exact ⟨0, Nat.zero_le _, rfl, fun j h => by omega⟩
  case round =>
    obtain ⟨k, hk, rfl, HI⟩ := hrel
    by_cases hlt : k < m.runs.length
    · have i1 : ((k : Int) < (m.runs.length : Int)) := by omega
      obtain ⟨a, rfl⟩ := HL.out.addr hlt
      obtain ⟨x0, x1, x2, x3, x4, x5, x6⟩ := HL.out.at_ HB0.out hlt
      by_cases he : (runAt m.runs k).id = i
      · have he' : ((runAt m.runs k).id == i) = true := by simp [he]
        have HE := Lib.hid (show runR m.runs i = .tuple #[.agg #[.int .i64 (runAt m.runs k).id, .int .i64 (runAt m.runs k).op, .int .i64 (runAt m.runs k).src, .int .i64 (runAt m.runs k).dst, .int .i64 (runAt m.runs k).grade, .int .i64 (runAt m.runs k).zone, .int .i64 (runAt m.runs k).len], .bool true] by
          unfold runR
          rw [findRun_at hlt he HI.out])
        clear he
        go_wp2_with fail
        refine bodyPost_ret (v := .tuple #[.agg #[.int .i64 (runAt m.runs k).id, .int .i64 (runAt m.runs k).op, .int .i64 (runAt m.runs k).src, .int .i64 (runAt m.runs k).dst, .int .i64 (runAt m.runs k).grade, .int .i64 (runAt m.runs k).zone, .int .i64 (runAt m.runs k).len], .bool true]) (by simp [results, go_sem]) rfl ⟨by rw [HE.out], ((Below.refl _ _).alloc (Nat.le_refl _) _).alloc (by simp) _⟩
      · have he' : ((runAt m.runs k).id == i) = false := by simp [he]
        have HN := Lib.hid (show ∀ j, j < k + 1 → (runAt m.runs j).id ≠ i from fun j hj => by
          rcases Nat.lt_or_ge j k with h | h
          · exact HI.out j h
          · have : j = k := by omega
            subst this
            exact he)
        clear he
        go_wp2_with fail
        go_round
        case rel => exact ⟨k + 1, by omega, by go_num, HN.out⟩
        case measure => simp [intOf]; omega
    · have HE := Lib.hid (show runR m.runs i = .tuple #[.agg #[.int .i64 0, .int .i64 0, .int .i64 0, .int .i64 0, .int .i64 0, .int .i64 0, .int .i64 0], .bool false] by
        unfold runR
        rw [findRun_no (fun j hj => HI.out j (by omega))])
      have i1 : ¬ ((k : Int) < (m.runs.length : Int)) := by omega
      go_wp2_with fail
      refine bodyPost_ret (v := .tuple #[.agg #[.int .i64 0, .int .i64 0, .int .i64 0, .int .i64 0, .int .i64 0, .int .i64 0, .int .i64 0], .bool false]) (by simp [results, go_sem]) rfl ⟨by rw [HE.out], ((Below.refl _ _).alloc (Nat.le_refl _) _).alloc (by simp) _⟩
end Go.Proofs.Ytoeiongnjogpeaa
