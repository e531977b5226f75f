/- Proved here: how a slice of structs of whole numbers opens; how a map of a ski area opens. Conditions: the argument is as the row gives it. Written by gen_rd.py. -/
import Derived.Test.YtoeiongnjogpeaaMapAll
import Derived.Test.YtoeiongnjogpeaaOpenI
namespace Go.Proofs.Ytoeiongnjogpeaa
open Go.ChangeShapes Go.WideShapes Go.Deep
theorem open_rows {H : Type} {enc : TypeId × Value → H} {w : World} {base : Nat} {t e : TypeId} {fs : Array Field} {fuel : Nat} {cs : List Value} {x : DataW H × List MemPlace} (ht : Try.prog.underlying t = some (.slice e)) (he : Try.prog.underlying e = some (.struct fs))
    (hone : oneCellFields Try.prog fs = true) (hC : Try.prog.cellsOf e = fs.size) (hint : (fs.toList.all fun f => f.type == 3) = true) (h : DataW.trod enc Try.prog w base (fun _ => true) true fuel t cs = some x) :
    ∃ A n cap, ∃ f : Nat → Nat → Int, cs = [.slice A n cap] ∧ n ≤ 9223372036854775807 ∧ ∀ i, i < n → ∃ a, A = some a ∧ ∀ j, j < fs.size → w.cell? (a.add (i * fs.size + j)) = some (.int .i64 (f i j)) ∧ w64 (f i j) := by
  rcases open_slice_fields ht he hone hC h with rfl | ⟨a, len, cap, m, rfl, hl, hm, hmm, hi⟩
  · exact ⟨none, 0, 0, fun _ _ => 0, rfl, by omega, fun i hi => by omega⟩
  · simp only [if_true] at hmm
    subst hmm
    have get : ∀ i j, i < len → j < fs.size → ∃ n : Int, w.cell? (a.add (i * fs.size + j)) = some (.int .i64 n) ∧ w64 n := by
      intro i j h hj
      obtain ⟨n, v, y, hc, htr⟩ := hi i (by omega) j (fs[j]'hj) (Array.getElem?_eq_getElem hj)
      have hty : (fs[j]'hj).type = 3 := by
        have := List.all_eq_true.1 hint (fs[j]'hj) (by simp)
        simpa using this
      rw [hty] at htr
      obtain ⟨k, hk, _, hw⟩ := DataW.trod_int Try.underlying3 htr
      simp only [List.cons.injEq, and_true] at hk
      subst hk
      exact ⟨k, hc, wf64 hw⟩
    have hml : maxLen ≤ 9223372036854775807 := by decide
    refine ⟨some a, len, _, fun i j => if h : i < len ∧ j < fs.size then Classical.choose (get i j h.1 h.2) else 0, rfl, by omega, fun i h => ⟨a, rfl, fun j hj => ?_⟩⟩
    dsimp only
    rw [dif_pos ⟨h, hj⟩]
    exact Classical.choose_spec (get i j h hj)
set_option maxRecDepth 100000 in
theorem open_nodes {H : Type} {enc : TypeId × Value → H} {W : World} {base fuel : Nat} {x : DataW H × List MemPlace} {cs : List Value}
    (h : DataW.trod enc Try.prog W base (fun _ => true) true fuel 22 cs = some x) :
    ∃ A l cap, cs = [.slice A (List.length l) cap] ∧ RdNode W A l ∧ ∀ e ∈ l, w64 e.id ∧ w64 e.alt := by
  rcases open_rows Try.underlying22 Try.underlying68 (by kernel_rfl) (by kernel_rfl) (by kernel_rfl) h with ⟨A, n, cap, f, rfl, hn, hc⟩
  have hl : ((List.range n).map fun i => (⟨f i 0, f i 1⟩ : NodeM)).length = n := by simp
  refine ⟨A, (List.range n).map fun i => (⟨f i 0, f i 1⟩ : NodeM), cap, by rw [hl], ⟨by rw [hl]; omega, fun i hi => ?_⟩, fun e he => ?_⟩
  rotate_left
  · obtain ⟨i, hi, rfl⟩ := List.mem_map.1 he
    obtain ⟨a, _, hcell⟩ := hc i (List.mem_range.1 hi)
    exact ⟨(hcell 0 (by decide)).2, (hcell 1 (by decide)).2⟩
  rw [hl] at hi
  obtain ⟨a, ha, hcell⟩ := hc i hi
  have e : nodeAt ((List.range n).map fun i => (⟨f i 0, f i 1⟩ : NodeM)) i = ⟨f i 0, f i 1⟩ := by simp [nodeAt, hi]
  have at_ : ∀ j, j ≠ 0 → W.cell? (a.add (i * 2 + j)) = W.cell? ⟨(a.add (i * 2)).block, (a.add (i * 2)).off + j, none⟩ := fun j hj => by
    rw [← Go.Deep.add_add]
    generalize a.add (i * 2) = y
    unfold Addr.add
    rw [if_neg hj]
  rw [e]
  exact ⟨a, ha, (hcell 0 (by decide)).1, (at_ 1 (by omega)).symm.trans (hcell 1 (by decide)).1⟩
set_option maxRecDepth 100000 in
theorem open_lifts {H : Type} {enc : TypeId × Value → H} {W : World} {base fuel : Nat} {x : DataW H × List MemPlace} {cs : List Value}
    (h : DataW.trod enc Try.prog W base (fun _ => true) true fuel 23 cs = some x) :
    ∃ A l cap, cs = [.slice A (List.length l) cap] ∧ RdLift W A l ∧ ∀ e ∈ l, w64 e.id ∧ w64 e.op ∧ w64 e.src ∧ w64 e.dst ∧ w64 e.len ∧ w64 e.speed ∧ w64 e.seats ∧ w64 e.space := by
  rcases open_rows Try.underlying23 Try.underlying92 (by kernel_rfl) (by kernel_rfl) (by kernel_rfl) h with ⟨A, n, cap, f, rfl, hn, hc⟩
  have hl : ((List.range n).map fun i => (⟨f i 0, f i 1, f i 2, f i 3, f i 4, f i 5, f i 6, f i 7⟩ : LiftM)).length = n := by simp
  refine ⟨A, (List.range n).map fun i => (⟨f i 0, f i 1, f i 2, f i 3, f i 4, f i 5, f i 6, f i 7⟩ : LiftM), cap, by rw [hl], ⟨by rw [hl]; omega, fun i hi => ?_⟩, fun e he => ?_⟩
  rotate_left
  · obtain ⟨i, hi, rfl⟩ := List.mem_map.1 he
    obtain ⟨a, _, hcell⟩ := hc i (List.mem_range.1 hi)
    exact ⟨(hcell 0 (by decide)).2, (hcell 1 (by decide)).2, (hcell 2 (by decide)).2, (hcell 3 (by decide)).2, (hcell 4 (by decide)).2, (hcell 5 (by decide)).2, (hcell 6 (by decide)).2, (hcell 7 (by decide)).2⟩
  rw [hl] at hi
  obtain ⟨a, ha, hcell⟩ := hc i hi
  have e : liftAt ((List.range n).map fun i => (⟨f i 0, f i 1, f i 2, f i 3, f i 4, f i 5, f i 6, f i 7⟩ : LiftM)) i = ⟨f i 0, f i 1, f i 2, f i 3, f i 4, f i 5, f i 6, f i 7⟩ := by simp [liftAt, hi]
  have at_ : ∀ j, j ≠ 0 → W.cell? (a.add (i * 8 + j)) = W.cell? ⟨(a.add (i * 8)).block, (a.add (i * 8)).off + j, none⟩ := fun j hj => by
    rw [← Go.Deep.add_add]
    generalize a.add (i * 8) = y
    unfold Addr.add
    rw [if_neg hj]
  rw [e]
  exact ⟨a, ha, (hcell 0 (by decide)).1, (at_ 1 (by omega)).symm.trans (hcell 1 (by decide)).1, (at_ 2 (by omega)).symm.trans (hcell 2 (by decide)).1, (at_ 3 (by omega)).symm.trans (hcell 3 (by decide)).1, (at_ 4 (by omega)).symm.trans (hcell 4 (by decide)).1, (at_ 5 (by omega)).symm.trans (hcell 5 (by decide)).1, (at_ 6 (by omega)).symm.trans (hcell 6 (by decide)).1, (at_ 7 (by omega)).symm.trans (hcell 7 (by decide)).1⟩
set_option maxRecDepth 100000 in
theorem open_runs {H : Type} {enc : TypeId × Value → H} {W : World} {base fuel : Nat} {x : DataW H × List MemPlace} {cs : List Value}
    (h : DataW.trod enc Try.prog W base (fun _ => true) true fuel 24 cs = some x) :
    ∃ A l cap, cs = [.slice A (List.length l) cap] ∧ RdRun W A l ∧ ∀ e ∈ l, w64 e.id ∧ w64 e.op ∧ w64 e.src ∧ w64 e.dst ∧ w64 e.grade ∧ w64 e.zone ∧ w64 e.len := by
  rcases open_rows Try.underlying24 Try.underlying37 (by kernel_rfl) (by kernel_rfl) (by kernel_rfl) h with ⟨A, n, cap, f, rfl, hn, hc⟩
  have hl : ((List.range n).map fun i => (⟨f i 0, f i 1, f i 2, f i 3, f i 4, f i 5, f i 6⟩ : RunM)).length = n := by simp
  refine ⟨A, (List.range n).map fun i => (⟨f i 0, f i 1, f i 2, f i 3, f i 4, f i 5, f i 6⟩ : RunM), cap, by rw [hl], ⟨by rw [hl]; omega, fun i hi => ?_⟩, fun e he => ?_⟩
  rotate_left
  · obtain ⟨i, hi, rfl⟩ := List.mem_map.1 he
    obtain ⟨a, _, hcell⟩ := hc i (List.mem_range.1 hi)
    exact ⟨(hcell 0 (by decide)).2, (hcell 1 (by decide)).2, (hcell 2 (by decide)).2, (hcell 3 (by decide)).2, (hcell 4 (by decide)).2, (hcell 5 (by decide)).2, (hcell 6 (by decide)).2⟩
  rw [hl] at hi
  obtain ⟨a, ha, hcell⟩ := hc i hi
  have e : runAt ((List.range n).map fun i => (⟨f i 0, f i 1, f i 2, f i 3, f i 4, f i 5, f i 6⟩ : RunM)) i = ⟨f i 0, f i 1, f i 2, f i 3, f i 4, f i 5, f i 6⟩ := by simp [runAt, hi]
  have at_ : ∀ j, j ≠ 0 → W.cell? (a.add (i * 7 + j)) = W.cell? ⟨(a.add (i * 7)).block, (a.add (i * 7)).off + j, none⟩ := fun j hj => by
    rw [← Go.Deep.add_add]
    generalize a.add (i * 7) = y
    unfold Addr.add
    rw [if_neg hj]
  rw [e]
  exact ⟨a, ha, (hcell 0 (by decide)).1, (at_ 1 (by omega)).symm.trans (hcell 1 (by decide)).1, (at_ 2 (by omega)).symm.trans (hcell 2 (by decide)).1, (at_ 3 (by omega)).symm.trans (hcell 3 (by decide)).1, (at_ 4 (by omega)).symm.trans (hcell 4 (by decide)).1, (at_ 5 (by omega)).symm.trans (hcell 5 (by decide)).1, (at_ 6 (by omega)).symm.trans (hcell 6 (by decide)).1⟩
theorem one_slice {A B : Option Addr} {n m c d : Nat} (h : [Value.slice A n c] = [Value.slice B m d]) : A = B ∧ n = m ∧ c = d := by simpa using h
set_option maxRecDepth 100000 in
theorem open_intsT {H : Type} {enc : TypeId × Value → H} {W : World} {base fuel : Nat} {x : DataW H × List MemPlace} {cs : List Value}
    (h : DataW.trod enc Try.prog W base (fun _ => true) true fuel 25 cs = some x) : ∃ A l cap, cs = [.slice A (List.length l) cap] ∧ RdI W A l ∧ ∀ y ∈ l, w64 y := by
  rcases open_ints Try.underlying25 Try.underlying3 (by kernel_rfl) h with ⟨rfl, _⟩ | ⟨a, len, cap, zs, rfl, _, hl, hm, hz, _, hcell, hwf⟩
  · exact ⟨none, [], 0, rfl, ⟨by simp, by simp⟩, by simp⟩
  · simp only [if_true] at hz
    have hlen : (zs.take len).length = len := by simp; omega
    refine ⟨some a, zs.take len, cap, by rw [hlen], ⟨?_, fun i h => ⟨a, rfl, ?_⟩⟩, fun y hy => wf64 (hwf y (List.mem_of_mem_take hy))⟩
    · have : maxLen ≤ 9223372036854775807 := by decide
      omega
    · rw [hlen] at h
      rw [hcell i (by omega)]
      have e : numAt (zs.take len) i = zs.getD i 0 := by
        simp [numAt, List.getD, h]
      rw [e]
set_option maxRecDepth 100000 in
theorem open_mapT {H : Type} {enc : TypeId × Value → H} {W : World} {base fuel : Nat} {x : DataW H × List MemPlace} {cs : List Value}
    (h : DataW.trod enc Try.prog W base (fun _ => true) true fuel 27 cs = some x) : ∃ V m, cs = mapC V m ∧ RdM W V m := by
  obtain ⟨xs, n, _, _, hl, hxl, hat⟩ := DataW.trod_struct Try.underlying27 h
  have hc4 : Try.prog.cellsOf 27 = 4 := by kernel_rfl
  rw [hc4] at hl
  have hcN : Try.prog.cellsOf 22 = 1 := by kernel_rfl
  have hcL : Try.prog.cellsOf 23 = 1 := by kernel_rfl
  have hcR : Try.prog.cellsOf 24 = 1 := by kernel_rfl
  have hcI : Try.prog.cellsOf 25 = 1 := by kernel_rfl
  match cs, hl with
  | [c0, c1, c2, c3], _ =>
    have h0 : DataW.trod enc Try.prog W base (fun _ => true) true n 22 (([c0, c1, c2, c3].drop 0).take (Try.prog.cellsOf 22)) = xs[0]? := hat 0 _ rfl
    have h1 : DataW.trod enc Try.prog W base (fun _ => true) true n 23 (([c0, c1, c2, c3].drop 1).take (Try.prog.cellsOf 23)) = xs[1]? := hat 1 _ rfl
    have h2 : DataW.trod enc Try.prog W base (fun _ => true) true n 24 (([c0, c1, c2, c3].drop 2).take (Try.prog.cellsOf 24)) = xs[2]? := hat 2 _ rfl
    have h3 : DataW.trod enc Try.prog W base (fun _ => true) true n 25 (([c0, c1, c2, c3].drop 3).take (Try.prog.cellsOf 25)) = xs[3]? := hat 3 _ rfl
    have hxl : xs.length = 4 := hxl
    rw [hcN, List.getElem?_eq_getElem (by omega)] at h0
    rw [hcL, List.getElem?_eq_getElem (by omega)] at h1
    rw [hcR, List.getElem?_eq_getElem (by omega)] at h2
    rw [hcI, List.getElem?_eq_getElem (by omega)] at h3
    obtain ⟨A0, l0, p0, e0, r0, _⟩ := open_nodes (cs := [c0]) h0
    obtain ⟨A1, l1, p1, e1, r1, _⟩ := open_lifts (cs := [c1]) h1
    obtain ⟨A2, l2, p2, e2, r2, _⟩ := open_runs (cs := [c2]) h2
    obtain ⟨A3, l3, p3, e3, r3, _⟩ := open_intsT (cs := [c3]) h3
    simp only [List.cons.injEq, and_true] at e0 e1 e2 e3
    subst e0 e1 e2 e3
    exact ⟨⟨A0, A1, A2, A3, p0, p1, p2, p3⟩, ⟨l0, l1, l2, l3⟩, rfl, r0, r1, r2, r3⟩
set_option maxRecDepth 100000 in
/-- A map, as a row gives it. -/
theorem open_map {H : Type} {enc : TypeId × Value → H} {W : World} {base : Nat} {v : Value} {d : DataW H} {p : List MemPlace}
    (hv : Value.okWide Try.prog W .any base 27 v) (h : DataW.Trod enc Try.prog W 0 (fun _ => true) true 27 v d p) :
    ∃ (V : MapA) (m : MapM) (_u : Unit), v = mapV V m ∧ RdM W V m := by
  obtain ⟨cs, rfl, hsz⟩ := okWide_struct Try.underlying27 hv
  obtain ⟨fuel, hf⟩ := h
  obtain ⟨V, m, e, hr⟩ := open_mapT hf
  refine ⟨V, m, (), ?_, hr⟩
  unfold Value.cells at e
  obtain ⟨l⟩ := cs
  simp only at e
  rw [e]; rfl
end Go.Proofs.Ytoeiongnjogpeaa
