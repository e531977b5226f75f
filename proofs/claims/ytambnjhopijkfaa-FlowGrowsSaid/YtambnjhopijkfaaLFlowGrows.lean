/- Proved here: the law FlowGrows returns true for all arguments that read as edges, and changes nothing that was there before. -/
import Derived.Test.YtambnjhopijkfaaLFlowTurned
import Derived.Deep.Slices
namespace Go.Proofs.Ytambnjhopijkfaa
open Go.RowKit
theorem flat_set : ∀ (l : List Edge) (i : Nat) (b : Int), i < l.length → (l.flatMap edgeCells).set (i * 4 + 3) (.int .i64 ((edAt l i).cost + b)) = (moreAt l i b).flatMap edgeCells
  | [], _, _, h => by simp at h
  | e :: l, 0, b, _ => by simp [moreAt, edAt, edgeCells]
  | e :: l, i + 1, b, h => by
    have : moreAt (e :: l) (i + 1) b = e :: moreAt l i b := by unfold moreAt; simp [edAt]
    rw [this, List.flatMap_cons, List.flatMap_cons, ← flat_set l i b (by simpa using h), edAt_cons_succ]
    rw [show (i + 1) * 4 + 3 = (edgeCells e).length + (i * 4 + 3) by simp [edgeCells]; omega]
    rw [List.set_append_right _ _ (by omega)]
    congr 2
    omega
set_option maxRecDepth 100000 in
set_option maxHeartbeats 4000000 in
theorem flowGrows_walk (A : Option Addr) (c : Nat) (l : List Edge) (s t : Int) (ed by_ : Int) (w : World) (hl : RdE w A l) (h8 : (Lit.int .u8 ed).wf = true) (h16 : (Lit.int .u16 by_).wf = true) :
    Calls Try.prog 8 #[.slice A l.length c, .int .i64 s, .int .i64 t, .int .u8 ed, .int .u16 by_] w fun e w' => e = .returned (.bool true) ∧ Below w.heap.size w w' := by
  have hm := hl.1
  have HA := Lib.hid (alive_any w)
  have HF := Lib.hid (fun W (h : Below w.heap.size w W) => few_any A c l W (hl.below h))
  have HM := Lib.hid (fun (hr : Right l) (s t : Int) W (h : Below w.heap.size w W) => max_any A c l s t W (hl.below h) hr)
  have HL := Lib.hid hl
  clear hl
  obtain ⟨n, rfl, hn⟩ : ∃ n : Nat, ed = n ∧ n < 256 := by
    simp [Lit.wf, IntKind.min, IntKind.max, IntKind.signed, IntKind.bits] at h8
    exact ⟨ed.toNat, by omega, by omega⟩
  obtain ⟨m, rfl, hm2⟩ : ∃ m : Nat, by_ = m ∧ m < 65536 := by
    simp [Lit.wf, IntKind.min, IntKind.max, IntKind.signed, IntKind.bits] at h16
    exact ⟨by_.toNat, by omega, by omega⟩
  clear h8 h16
  go_enter Try.func8, Try.ntmps8
  go_wp2_with fail
  refine HA.out.mono ?_
  rintro e w1 ⟨rfl, hb1⟩
  have HB1 := Lib.hid hb1
  clear hb1
  go_wp2_with fail
  refine (HF.out _ HB1.out).mono ?_
  rintro e w2 ⟨rfl, hb2⟩
  have HB2 := Lib.hid (HB1.out.trans (hb2.mono HB1.out.size))
  clear hb2
  by_cases hfew : fewB l = true
  · have hr : Right l := by
      simp only [fewB, Bool.and_eq_true] at hfew
      exact rightB_iff.1 hfew.2
    rw [hfew]
    have H200 := hr.len
    have HR := Lib.hid hr
    clear hr
    by_cases h0 : l.length = 0
    · have g1 : ((l.length : Int) == 0) = true := by simp [h0]
      go_wp2_with fail
      go_ret
      exact ⟨rfl, HB2.out⟩
    · have hpos : 0 < l.length := by omega
      have g1 : ((l.length : Int) == 0) = false := by rw [beq_eq_false_iff_ne]; omega
      obtain ⟨a, rfl⟩ := HL.out.addr hpos
      obtain ⟨ti, t2, t3, t4, t5⟩ : ∃ i, (Try.prog).info? 34 = some i ∧ i.zero = some (.agg #[.int .i64 0, .int .i64 0, .int .i64 0, .int .i64 0]) ∧ i.size = 4 ∧ i.bytes = 32 := by
        have hi : ((Try.prog).info? 34).map (fun i => (i.zero, i.size, i.bytes)) = some (some (.agg #[.int .i64 0, .int .i64 0, .int .i64 0, .int .i64 0]), 4, 32) := by kernel_rfl
        cases h0 : (Try.prog).info? 34 with
        | none => rw [h0] at hi; cases hi
        | some i => rw [h0] at hi; simp at hi; exact ⟨i, rfl, hi⟩
      have T2 := Lib.hid t2
      clear t2
      go_wp2_with (at_builtin; refine wpList_append_grows _ rfl _ _ 22 rfl 34 ti _ 4 32 Try.underlying22 T2.out t3 t4 t5 rfl (by omega) _ 0 0 [] rfl (fun h => by cases h) rfl (fun b hb j u hj => by simp at hj) a l.length c (l.flatMap edgeCells) rfl (flat_len l) ?hcell ?hone (by omega) (by simp only [maxLen]; omega) (by omega) ?_)
      case hcell =>
        intro j u hj
        have hB : Below w.heap.size w (w2.alloc (.cells #[] 34)) := HB2.out.alloc HB2.out.size _
        have hjl : j < l.length * 4 := by
          have := (List.getElem?_eq_some_iff.1 hj).1
          rwa [flat_len] at this
        obtain ⟨z0, z1, z2, z3⟩ := HL.out.at_ hB (i := j / 4) (by omega)
        have hf := flat_at l (j / 4) (j % 4) (by omega) (by omega)
        rw [show j / 4 * 4 + j % 4 = j by omega, hj] at hf
        have e : ∀ r, r ≠ 0 → a.add (j / 4 * 4 + r) = ⟨(a.add (j / 4 * 4)).block, (a.add (j / 4 * 4)).off + r, none⟩ := fun r hr => by
          rw [← Go.Deep.add_add]
          generalize a.add (j / 4 * 4) = y
          unfold Addr.add
          rw [if_neg hr]
        rcases (show j % 4 = 0 ∨ j % 4 = 1 ∨ j % 4 = 2 ∨ j % 4 = 3 by omega) with h | h | h | h
        · rw [h] at hf
          simp [edgeCells] at hf
          rw [show j = j / 4 * 4 by omega, hf]; exact z0
        · rw [h] at hf
          simp [edgeCells] at hf
          rw [show j = j / 4 * 4 + 1 by omega, e 1 (by omega), hf]
          exact z1
        · rw [h] at hf
          simp [edgeCells] at hf
          rw [show j = j / 4 * 4 + 2 by omega, e 2 (by omega), hf]
          exact z2
        · rw [h] at hf
          simp [edgeCells] at hf
          rw [show j = j / 4 * 4 + 3 by omega, e 3 (by omega), hf]
          exact z3
      case hone =>
        intro u hu
        obtain ⟨x, _, hx⟩ := List.mem_flatMap.1 hu
        simp only [edgeCells, List.mem_cons, List.not_mem_nil, or_false] at hx
        rcases hx with rfl | rfl | rfl | rfl <;> rfl
      intro v' w3 ho hg
      have hO : OwnS 34 4 w3 w.heap.size v' l.length (l.flatMap edgeCells) := by
        have h := (OwnS.of_row ho).mono (B' := w.heap.size) (by have := HB2.out.size; simp; omega)
        simpa using h
      have hB3 : Below w.heap.size w w3 := (HB2.out.alloc HB2.out.size _).grown hg (by have := HB2.out.size; simp; omega) (fun k hk => by cases hk)
      obtain ⟨A2, c2, rfl, hc1, hc2⟩ := hO.slice
      obtain ⟨i, hi⟩ : ∃ i, i = n % l.length := ⟨_, rfl⟩
      have hil : i < l.length := by rw [hi]; exact Nat.mod_lt _ hpos
      have hf := flat_at l i 3 hil (by omega)
      simp only [edgeCells] at hf
      obtain ⟨g, o, rfl, hcell, hfro⟩ := hO.cell (j := i * 4 + 3) hf
      obtain ⟨hst, hsg⟩ := hO.store (i * 4 + 3) (.int .i64 ((edAt l i).cost + (m : Int)))
      rw [flat_set l i m hil] at hst
      have hlen : (moreAt l i m).length = l.length := by simp [moreAt]
      have hB4 : Below w.heap.size w (w3.setCell ⟨g, o + (i * 4 + 3), none⟩ (.int .i64 ((edAt l i).cost + (m : Int)))) := hB3.grown hsg hB3.size (fun k hk => by cases hk; exact (hO.block rfl).1)
      have hE : RdE (w3.setCell ⟨g, o + (i * 4 + 3), none⟩ (.int .i64 ((edAt l i).cost + (m : Int)))) (some ⟨g, o, none⟩) (moreAt l i m) := by
        have h' : OwnS 34 4 (w3.setCell ⟨g, o + (i * 4 + 3), none⟩ (.int .i64 ((edAt l i).cost + (m : Int)))) w.heap.size (.slice (some ⟨g, o, none⟩) (moreAt l i m).length c2) (moreAt l i m).length ((moreAt l i m).flatMap edgeCells) := by rw [hlen]; exact hst
        exact h'.rdE (by omega)
      have hcost := right_cost HR.out hil
      have e1 : (⟨g, o, none⟩ : Addr).add (i * 4) = ⟨g, o + i * 4, none⟩ := by rw [Addr.add_lit]
      have hmod : Int.tmod (n : Int) (l.length : Int) = (i : Int) := by rw [hi]; rfl
      have il1 : ((i : Int) < (l.length : Int)) := by omega
      have hcell' : w3.cell? ⟨g, o + i * 4 + 3, none⟩ = some (.int .i64 (edAt l i).cost) := by rw [Nat.add_assoc]; exact hcell
      have hfro' : w3.frozen? ⟨g, o + i * 4 + 3, none⟩ = false := by rw [Nat.add_assoc]; exact hfro
      rw [← Nat.add_assoc] at hE hB4
      have HE := Lib.hid hE
      have HB4 := Lib.hid hB4
      clear hO hst hsg hE hB4 hB3 hg ho hf hi hcell hfro
      generalize hW : w3.setCell ⟨g, o + i * 4 + 3, none⟩ (.int .i64 ((edAt l i).cost + (m : Int))) = w4 at HE HB4
      have hrt := right_any (some ⟨g, o, none⟩) c2 (moreAt l i m) w4 HE.out
      have hmx := fun (hr : Right (moreAt l i m)) W (h : Below w4.heap.size w4 W) => max_any (some ⟨g, o, none⟩) c2 (moreAt l i m) s t W (HE.out.below h) hr
      rw [hlen] at hrt hmx
      have HRT := Lib.hid hrt
      have HMX := Lib.hid hmx
      clear hrt hmx
      go_wp2_with fail
      refine HRT.out.mono ?_
      rintro e w5 ⟨rfl, hb5⟩
      have HB5 := Lib.hid hb5
      clear hb5 hW hcell' hfro'
      by_cases hmr : rightB (moreAt l i m) = true
      · rw [hmr]
        have HRM := Lib.hid (rightB_iff.1 hmr)
        clear hmr
        have hle : maxV l s t ≤ maxV (moreAt l i m) s t ∧ maxV (moreAt l i m) s t ≤ maxV l s t + (m : Int) := by
          by_cases hst : s = t
          · subst hst
            rw [maxV_same, maxV_same]
            omega
          · obtain ⟨f, S, h1⟩ := exists_max _ c l s t w HL.out HR.out hst
            obtain ⟨f2, U, h2⟩ := exists_max _ c2 (moreAt l i m) s t w4 HE.out HRM.out hst
            exact maxV_more hil (by omega) h1 h2
        have hbd := maxV_bound HR.out s t
        have hB5 : Below w.heap.size w w5 := HB4.out.trans (HB5.out.mono HB4.out.size)
        have HB5w := Lib.hid hB5
        clear hB5
        go_wp2_with fail
        refine (HM.out HR.out s t _ HB5w.out).mono ?_
        rintro e w6 ⟨rfl, hb6⟩
        have HB6 := Lib.hid (HB5.out.trans (hb6.mono HB5.out.size))
        have HB6w := Lib.hid (HB5w.out.trans (hb6.mono HB5w.out.size))
        clear hb6
        go_wp2_with fail
        refine (HMX.out HRM.out _ HB6.out).mono ?_
        rintro e w7 ⟨rfl, hb7⟩
        have HB7w := Lib.hid (HB6w.out.trans (hb7.mono HB6w.out.size))
        clear hb7
        generalize maxV l s t = x at hle hbd
        generalize maxV (moreAt l i m) s t = y at hle hbd
        obtain ⟨hle1, hle2⟩ := hle
        go_wp2_with fail
        go_ret
        exact ⟨rfl, HB7w.out⟩
      · simp only [Bool.not_eq_true] at hmr
        rw [hmr]
        go_wp2_with fail
        go_ret
        exact ⟨rfl, HB4.out.trans (HB5.out.mono HB4.out.size)⟩
  · simp only [Bool.not_eq_true] at hfew
    rw [hfew]
    go_wp2_with fail
    go_ret
    exact ⟨rfl, HB2.out⟩
end Go.Proofs.Ytambnjhopijkfaa
