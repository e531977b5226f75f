/- Proved here: alive of chapter 05 returns true. No condition. -/
import Derived.Test.YtmnkgcnhmkggkaaSamp
import Derived.Test.YtmnkgcnhmkggkaaHas5
import Derived.Deep.RegionHeld3
namespace Go.Proofs.Ytmnkgcnhmkggkaa
open Go.RowKit
theorem OwnS.rdI {w : World} {B n c : Nat} {A : Option Addr} {f : List Int} (h : OwnS 3 1 w B (.slice A n c) n (f.map (Value.int .i64))) : RdI w A f := by
  have hl : f.length = n := by have := h.1; simpa using this
  obtain ⟨_, _, _, hn, hc⟩ := h.slice
  refine ⟨?_, fun i hi => ?_⟩
  · have := h.2
    obtain ⟨A', c', hv, h1, h2, _⟩ := this
    simp only [maxLen] at h2
    omega
  · obtain ⟨g, o, rfl, hcell, _⟩ := h.cell (j := i) (u := .int .i64 (numAt f i)) (by rw [List.getElem?_map, numAt_eq hi]; rfl)
    exact ⟨_, rfl, by rw [Addr.add_lit]; exact hcell⟩
theorem rdI_new (W : World) (xs : List Int) (h : xs.length ≤ 1000) (b : Nat) (hb : b = W.heap.size) : RdI (W.alloc (.cells (xs.map (Value.int .i64)).toArray 3)) (some ⟨b, 0, none⟩) xs := by
  refine ⟨by omega, fun i hi => ⟨_, rfl, ?_⟩⟩
  exact box_cells W (xs.map (Value.int .i64)).toArray 3 b hb i _ (by simp [List.getElem?_map, numAt_eq hi])
theorem alive_order (A : Option Addr) (c : Nat) (W : World) (hl : RdE W A sampleL) : Calls Try.prog 20 #[.slice A 5 c] W fun e w' => ∃ A' c', e = .returned (.tuple #[.slice A' 5 c', .int .i64 0]) ∧ RdI w' A' [5, 1, 2, 3, 4] ∧ Below W.heap.size W w' := by
  have h := order_any A c sampleL W hl samp_right
  rw [samp_order] at h
  refine h.mono ?_
  rintro e w' ⟨v, rfl, ho, hb⟩
  obtain ⟨A', c', rfl, _, _⟩ := ho.slice
  exact ⟨A', c', rfl, ho.rdI, hb⟩
theorem alive_loop (A : Option Addr) (c : Nat) (W : World) (hl : RdE W A (sampleL ++ [⟨16, 4, 2, 1⟩])) : Calls Try.prog 20 #[.slice A 6 c] W fun e w' => ∃ v, e = .returned (.tuple #[v, .int .i64 16]) ∧ Below W.heap.size W w' := by
  have h := order_any A c (sampleL ++ [⟨16, 4, 2, 1⟩]) W hl samp_loop_right
  rw [samp_loop] at h
  refine h.mono ?_
  rintro e w' ⟨v, rfl, ho, hb⟩
  exact ⟨v, rfl, hb⟩
theorem alive_short (l : List Edge) (f t : Int) (ids : List Int) (n : Int) (ok : Bool) (hs : ShortR l f t ids n ok) (hr : Right l) (A : Option Addr) (c : Nat) (W : World) (hl : RdE W A l) :
    Calls Try.prog 22 #[.slice A l.length c, .int .i64 f, .int .i64 t] W fun e w' => ∃ A' c', e = .returned (.tuple #[.slice A' ids.length c', .int .i64 n, .bool ok]) ∧ RdI w' A' ids ∧ Below W.heap.size W w' := by
  refine (short_any A c l f t W hl hr).mono ?_
  rintro e w' ⟨v, ids', n', ok', rfl, hs', hlen, ho, hb⟩
  obtain ⟨rfl, rfl, rfl⟩ := hs'.uniq hs
  obtain ⟨A', c', rfl, _, _⟩ := ho.slice
  exact ⟨A', c', rfl, ho.rdI, hb⟩
theorem alive_reach (l : List Edge) (hr : Right l) (f ss : List Int) (hf : ∀ x ∈ f, 0 ≤ x ∧ x ≤ 100) (hn : f.length ≤ 100) (hs : RS5 l f ss) (A F : Option Addr) (c d : Nat) (W : World) (hl : RdE W A l) (hF : RdI W F f) :
    Calls Try.prog 16 #[.slice A l.length c, .slice F f.length d] W fun e w' => ∃ A' c', e = .returned (.slice A' ss.length c') ∧ RdI w' A' ss ∧ Below W.heap.size W w' := by
  have hlen := hr.len
  refine (greach_any A F c d l f W hl hF (by omega) (by omega) (fun x hx => by have := hf x hx; omega) (fun e he => by have := hr.ok e he; unfold EdgeOk at this; omega)).mono ?_
  rintro e w' ⟨v, ss', rfl, ho, hs', hb⟩
  obtain rfl := hs'.uniq hs
  obtain ⟨A', c', rfl, _, _⟩ := ho.slice
  exact ⟨A', c', rfl, ho.rdI, hb⟩
theorem alive_back (l : List Edge) (hr : Right l) (f ss : List Int) (hf : ∀ x ∈ f, 0 ≤ x ∧ x ≤ 100) (hn : f.length ≤ 100) (hs : RS5 (l.map turnE) f ss) (A F : Option Addr) (c d : Nat) (W : World) (hl : RdE W A l) (hF : RdI W F f) :
    Calls Try.prog 18 #[.slice A l.length c, .slice F f.length d] W fun e w' => ∃ A' c', e = .returned (.slice A' ss.length c') ∧ RdI w' A' ss ∧ Below W.heap.size W w' := by
  have hlen := hr.len
  refine (gback_any A F c d l f W hl hF (by omega) (by omega) (fun x hx => by have := hf x hx; omega) (fun e he => by have := hr.ok e he; unfold EdgeOk at this; omega)).mono ?_
  rintro e w' ⟨v, ss', rfl, ho, hs', hb⟩
  obtain rfl := hs'.uniq hs
  obtain ⟨A', c', rfl, _, _⟩ := ho.slice
  exact ⟨A', c', rfl, ho.rdI, hb⟩
theorem OwnS.step_append_g {P : Program} {ops : Array Oper} {o : Oper} {a : Act} {w : World} {K : Act → World → Prop} {Q : Exit → Act → World → Prop} {E : Prop}
    (hw : Region.wanted o (yielded ops a.tmps) = true) (s x : Operand) (t : TypeId) (hop : o.op = Op.call { callee := Callee.builtin Builtin.append, args := #[s, x], argTypes := #[t, t] })
    (e : TypeId) (z : Value) (size bytes : Nat) (ht : P.underlying t = some (.slice e)) (hi : (P.info? e).map (fun i => (i.zero, i.size, i.bytes)) = some (some z, size, bytes)) (hzs : z.cells.size = size) (hsz : 0 < size) (hpos : 0 < bytes)
    (B n : Nat) (v : Value) (xs : List Value) (hs : a.eval s = v) (h : OwnS e size w B v n xs) (ad : Addr) (c : Nat) (news : List Value) (hx : a.eval x = .slice (some ad) 1 c) (hl : news.length = size)
    (hnews : ∀ j u, news[j]? = some u → w.cell? (ad.add j) = some u) (h1 : ∀ u ∈ news, u.oneCell' = true) (hbytes : (n + 1) * bytes ≤ 140737488355328) (hB : B ≤ w.heap.size)
    (hK : ∀ v' w', OwnS e size w' B v' (n + 1) (xs ++ news) → w.grownBy w' v.ownBlock → (v'.ownBlock = v.ownBlock ∨ ∃ k, v'.ownBlock = some k ∧ w.heap.size ≤ k) → K (a.put o.dst v') w') :
    if Region.wanted o (yielded ops a.tmps) = true then Oper.wp P o a w K Q else E := by
  rw [if_pos hw]
  obtain ⟨i, hi', hz, hsize, hby⟩ : ∃ i, P.info? e = some i ∧ i.zero = some z ∧ i.size = size ∧ i.bytes = bytes := by
    cases h0 : P.info? e with
    | none => rw [h0] at hi; cases hi
    | some i => rw [h0] at hi; simp at hi; exact ⟨i, rfl, hi⟩
  obtain ⟨v', w', hr, ho, hg, hor⟩ := h.append (P := P) t o.type i z bytes ht hi' hz hsize hby hzs hsz ad c news hl hnews h1 hbytes hpos hB
  unfold Oper.wp
  simp [execOp, hop, resolve, invoke, builtin, hs, hx, hr, Result.andThen]
  exact hK v' w' ho hg hor
theorem samp_cells : (sampleL ++ [(⟨16, 4, 2, 1⟩ : Edge)]).flatMap edgeCells = sampleL.flatMap edgeCells ++ edgeCells ⟨16, 4, 2, 1⟩ := by rw [List.flatMap_append]; rfl
theorem samp_cells2 : (sampleL ++ [(⟨11, 1, 2, 5⟩ : Edge)]).flatMap edgeCells = sampleL.flatMap edgeCells ++ edgeCells ⟨11, 1, 2, 5⟩ := by rw [List.flatMap_append]; rfl
/-- What holds between the calls of alive. -/
structure AI (b0 : Nat) (Ao Ap Aq : Option Addr) (w W : World) : Prop where
  l : RdE W (some ⟨b0, 0, none⟩) sampleL
  o : RdI W Ao [5, 1, 2, 3, 4]
  p : RdI W Ap [13, 14]
  q : RdI W Aq [11, 12, 14]
  b : Below w.heap.size w W
theorem AI.below {b0 : Nat} {Ao Ap Aq : Option Addr} {w W W' : World} (h : AI b0 Ao Ap Aq w W) (hb : Below W.heap.size W W') : AI b0 Ao Ap Aq w W' :=
  ⟨h.l.below hb, h.o.below hb, h.p.below hb, h.q.below hb, below_in h.b hb h.b.size⟩
def Cells0 (b0 : Nat) (W : World) : Prop := W.cell? ⟨b0, 0, none⟩ = some (.int .i64 11) ∧ W.cell? ⟨b0, 1, none⟩ = some (.int .i64 1) ∧ W.cell? ⟨b0, 2, none⟩ = some (.int .i64 2) ∧ W.cell? ⟨b0, 3, none⟩ = some (.int .i64 5)
theorem AI.cells {b0 : Nat} {Ao Ap Aq : Option Addr} {w W W' : World} (h : AI b0 Ao Ap Aq w W) (hb : Below W.heap.size W W') : W'.cell? ⟨b0, 0, none⟩ = some (.int .i64 11) ∧ W'.cell? ⟨b0, 1, none⟩ = some (.int .i64 1) ∧ W'.cell? ⟨b0, 2, none⟩ = some (.int .i64 2) ∧ W'.cell? ⟨b0, 3, none⟩ = some (.int .i64 5) := by
  have z := (h.below hb).l
  exact ⟨z.cell_at (Below.refl _ _) (j := 0) rfl, z.cell_at (Below.refl _ _) (j := 1) rfl, z.cell_at (Below.refl _ _) (j := 2) rfl, z.cell_at (Below.refl _ _) (j := 3) rfl⟩
theorem aReach {b0 : Nat} {Ao Ap Aq : Option Addr} {w W : World} (h : AI b0 Ao Ap Aq w W) (x : Int) (ss : List Int) (hx : 0 ≤ x ∧ x ≤ 100) (hs : RS5 sampleL [x] ss) :
    Calls Try.prog 16 #[.slice (some ⟨b0, 0, none⟩) 5 5, .slice (some ⟨W.heap.size, 0, none⟩) 1 1] (W.alloc (.cells #[.int .i64 x] 3)) fun e w' => ∃ A c, e = .returned (.slice A ss.length c) ∧ RdI w' A ss ∧ Below W.heap.size W w' := by
  refine (alive_reach sampleL samp_right [x] ss (by simpa using hx) (by simp) hs (some ⟨b0, 0, none⟩) (some ⟨W.heap.size, 0, none⟩) 5 1 (W.alloc (.cells #[.int .i64 x] 3)) (h.l.below (box_below _ _)) (rdI_new W [x] (by simp) _ rfl)).mono ?_
  rintro e w' ⟨A, c, rfl, hr, hb⟩
  exact ⟨A, c, rfl, hr, below_in (box_below _ _) hb (by simp)⟩
theorem aBack {b0 : Nat} {Ao Ap Aq : Option Addr} {w W : World} (h : AI b0 Ao Ap Aq w W) (x : Int) (ss : List Int) (hx : 0 ≤ x ∧ x ≤ 100) (hs : RS5 (sampleL.map turnE) [x] ss) :
    Calls Try.prog 18 #[.slice (some ⟨b0, 0, none⟩) 5 5, .slice (some ⟨W.heap.size, 0, none⟩) 1 1] (W.alloc (.cells #[.int .i64 x] 3)) fun e w' => ∃ A c, e = .returned (.slice A ss.length c) ∧ RdI w' A ss ∧ Below W.heap.size W w' := by
  refine (alive_back sampleL samp_right [x] ss (by simpa using hx) (by simp) hs (some ⟨b0, 0, none⟩) (some ⟨W.heap.size, 0, none⟩) 5 1 (W.alloc (.cells #[.int .i64 x] 3)) (h.l.below (box_below _ _)) (rdI_new W [x] (by simp) _ rfl)).mono ?_
  rintro e w' ⟨A, c, rfl, hr, hb⟩
  exact ⟨A, c, rfl, hr, below_in (box_below _ _) hb (by simp)⟩
theorem aSame {A : Option Addr} {c : Nat} {W : World} (xs : List Int) (h : RdI W A xs) (hn : xs.length ≤ 1000) :
    Calls Try.prog 15 #[.slice A xs.length c, .slice (some ⟨W.heap.size, 0, none⟩) xs.length xs.length] (W.alloc (.cells (xs.map (Value.int .i64)).toArray 3)) fun e w' => e = .returned (.bool true) ∧ Below W.heap.size W w' :=
  (same_any A (some ⟨W.heap.size, 0, none⟩) c xs.length xs xs (W.alloc (.cells (xs.map (Value.int .i64)).toArray 3)) (h.below (box_below _ _)) (rdI_new W xs hn _ rfl)).mono fun e w' ⟨a, b⟩ => ⟨by rw [a]; simp, below_in (box_below W _) b (by simp)⟩
set_option maxRecDepth 100000 in
set_option maxHeartbeats 4000000 in
/-- law05.alive -/
theorem alive_any (w : World) : Calls Try.prog 11 #[] w fun e w' => e = .returned (.bool true) ∧ Below w.heap.size w w' := by
  have HE := Lib.hid (sample_any w)
  go_enter Try.func11, Try.ntmps11
  go_wp2_with fail
  refine HE.out.mono ?_
  rintro e w1 ⟨rfl, ho, hb⟩
  have HL := Lib.hid (show RdE w1 (some ⟨w.heap.size, 0, none⟩) sampleL from ho.rdE (by decide))
  have HB := Lib.hid hb
  clear ho hb HE
  obtain ⟨b0, hb0⟩ : ∃ b0, b0 = w.heap.size := ⟨_, rfl⟩
  rw [← hb0] at HL ⊢
  clear hb0
  have HC := Lib.hid (alive_order (some ⟨b0, 0, none⟩) 5 w1 HL.out)
  go_wp2_with fail
  refine HC.out.mono ?_
  rintro e w2 ⟨Ao, co, rfl, ho, hb⟩
  replace HL := Lib.hid (HL.out.below hb)
  have HO := Lib.hid ho
  replace HB := Lib.hid (below_in HB.out hb HB.out.size)
  clear ho hb HC
  have HC := Lib.hid (sample_any w2)
  go_wp2_with fail
  refine HC.out.mono ?_
  rintro e w3 ⟨rfl, ho, hb⟩
  have HB3 := Lib.hid hb
  have hs3 := hb.size
  have HV := Lib.hid ho
  clear ho hb HC
  go_wp2_with (at_builtin; refine OwnS.wp_append rfl _ _ 22 rfl 42 (.agg #[.int .i64 0, .int .i64 0, .int .i64 0, .int .i64 0]) 4 32 Try.underlying22 (by kernel_rfl) rfl (by omega) (by omega) w2.heap.size 5 _ (sampleL.flatMap edgeCells) rfl (HV.out.alloc _) ⟨_, 0, none⟩ 1 (edgeCells ⟨16, 4, 2, 1⟩) rfl rfl (box_cells _ #[.int .i64 16, .int .i64 4, .int .i64 2, .int .i64 1] 42 _ (by simp)) (by simp [edgeCells, Value.oneCell']) (by omega) (by simp; omega) ?_)
  intro v4 w4 ho4 hg4 hor4
  obtain ⟨A4, c4, rfl, _, _⟩ := ho4.slice
  have HL4 := Lib.hid (show RdE w4 A4 (sampleL ++ [⟨16, 4, 2, 1⟩]) from OwnS.rdE (B := w2.heap.size) (c := c4) (l := sampleL ++ [⟨16, 4, 2, 1⟩]) (by rw [samp_cells]; exact ho4) (by decide))
  have hb4 : Below w2.heap.size w2 w4 := (HB3.out.alloc hs3 _).grown hg4 (by simp; omega) (fun j hj => (HV.out.block hj).1)
  replace HL := Lib.hid (HL.out.below hb4)
  replace HO := Lib.hid (HO.out.below hb4)
  replace HB := Lib.hid (below_in HB.out hb4 HB.out.size)
  clear ho4 hg4 hor4 hb4 HV HB3 hs3
  have HC := Lib.hid (alive_loop A4 c4 w4 HL4.out)
  go_wp2_with fail
  refine HC.out.mono ?_
  rintro e w5 ⟨v5, rfl, hb⟩
  replace HL := Lib.hid (HL.out.below hb)
  replace HO := Lib.hid (HO.out.below hb)
  replace HB := Lib.hid (below_in HB.out hb HB.out.size)
  clear hb HC HL4
  have HC := Lib.hid (alive_short sampleL 1 4 _ _ _ samp_short14 samp_right (some ⟨b0, 0, none⟩) 5 w5 HL.out)
  go_wp2_with fail
  refine HC.out.mono ?_
  rintro e w6 ⟨Ap, cp, rfl, hp, hb⟩
  replace HL := Lib.hid (HL.out.below hb)
  replace HO := Lib.hid (HO.out.below hb)
  replace HB := Lib.hid (below_in HB.out hb HB.out.size)
  have HP := Lib.hid hp
  clear hb hp HC
  have HC := Lib.hid (alive_short sampleL 4 1 _ _ _ samp_short41 samp_right (some ⟨b0, 0, none⟩) 5 w6 HL.out)
  go_wp2_with fail
  refine HC.out.mono ?_
  rintro e w7 ⟨Ax, cx, rfl, _, hb⟩
  replace HL := Lib.hid (HL.out.below hb)
  replace HO := Lib.hid (HO.out.below hb)
  replace HP := Lib.hid (HP.out.below hb)
  replace HB := Lib.hid (below_in HB.out hb HB.out.size)
  clear hb HC
  have hwo := without_any (some ⟨b0, 0, none⟩) (some ⟨w7.heap.size, 0, none⟩) 5 1 sampleL [13] (w7.alloc (.cells #[.int .i64 13] 3)) (HL.out.below (box_below _ _)) (rdI_new w7 [13] (by decide) _ rfl) (by decide)
  rw [samp_without] at hwo
  have HC := Lib.hid hwo
  clear hwo
  go_wp2_with fail
  refine HC.out.mono ?_
  rintro e w8 ⟨v8, rfl, ho, hb⟩
  obtain ⟨A8, c8, rfl, _, _⟩ := ho.slice
  have hb8 : Below w7.heap.size w7 w8 := below_in (box_below _ _) hb (by simp)
  replace HL := Lib.hid (HL.out.below hb8)
  replace HO := Lib.hid (HO.out.below hb8)
  replace HP := Lib.hid (HP.out.below hb8)
  replace HB := Lib.hid (below_in HB.out hb8 HB.out.size)
  have HL8 := Lib.hid (show RdE w8 A8 sampleT from ho.rdE (by decide))
  clear hb8 hb ho HC
  have HC := Lib.hid (alive_short sampleT 1 4 _ _ _ sampT_short sampT_right A8 c8 w8 HL8.out)
  go_wp2_with fail
  refine HC.out.mono ?_
  rintro e w9 ⟨Aq, cq, rfl, hq, hb⟩
  have HA : Hid (AI b0 Ao Ap Aq w w9) := ⟨HL.out.below hb, HO.out.below hb, HP.out.below hb, hq, below_in HB.out hb HB.out.size⟩
  clear HL HO HP HB hb hq HC HL8
  go_wp2_with fail
  have HR1 := Lib.hid (show ∀ W, Below w9.heap.size w9 W → Calls Try.prog 12 #[.slice (some ⟨b0, 0, none⟩) 5 5] W fun e w' => e = .returned (.int .i64 0) ∧ Below w9.heap.size w9 w' from fun W hW => by
    have h := gright_any (some ⟨b0, 0, none⟩) 5 sampleL W (HA.out.l.below hW)
    rw [samp_err] at h
    exact h.mono fun e w' ⟨a, b⟩ => ⟨a, below_in hW b hW.size⟩)
  have HR2 := Lib.hid (show ∀ (A : Option Addr) (c : Nat) (W : World), RdE W A (sampleL ++ [⟨11, 1, 2, 5⟩]) → Below w9.heap.size w9 W → Calls Try.prog 12 #[.slice A 6 c] W fun e w' => e = .returned (.int .i64 7) ∧ Below w9.heap.size w9 w' from fun A c W hl hW => by
    have h := gright_any A c (sampleL ++ [⟨11, 1, 2, 5⟩]) W hl
    rw [samp_twice] at h
    exact h.mono fun e w' ⟨a, b⟩ => ⟨a, below_in hW b hW.size⟩)
  have HSA := Lib.hid (show ∀ W, Below w9.heap.size w9 W → Calls Try.prog 30 #[] W fun e w' => ∃ g, e = .returned (.slice (some ⟨g, 0, none⟩) 5 5) ∧ OwnS 42 4 w' w9.heap.size (.slice (some ⟨g, 0, none⟩) 5 5) 5 (sampleL.flatMap edgeCells) ∧ Below W.heap.size W w' ∧ Below w9.heap.size w9 w' from fun W hW =>
    (sample_any W).mono fun e w' ⟨a, b, c⟩ => ⟨_, a, b.mono hW.size, c, below_in hW c hW.size⟩)
  have HCE := Lib.hid (fun W (h : Below w9.heap.size w9 W) => HA.out.cells h)
  have hrf : Hid (Below w9.heap.size w9 w9) := Below.refl _ _
  have hrfd : Hid (Below w9.heap.size w9 w9.drew) := hrf.out.drew
  obtain ⟨W9, hW9⟩ : ∃ W9, W9 = w9.drew := ⟨_, rfl⟩
  go_region_held3 (fun W : World => W.cell? ⟨b0, 0, none⟩ = some (.int .i64 11) ∧ W.cell? ⟨b0, 1, none⟩ = some (.int .i64 1) ∧ W.cell? ⟨b0, 2, none⟩ = some (.int .i64 2) ∧ W.cell? ⟨b0, 3, none⟩ = some (.int .i64 5))
    (first | exact HCE.out _ hrf.out | exact HCE.out _ hrfd.out | exact HCE.out _ (by assumption : Hid _).out | exact HCE.out _ ((by assumption : Hid (Below w9.heap.size w9 _)).out.alloc (by assumption : Hid (Below w9.heap.size w9 _)).out.size _))
    (first
      | (go_at_call_of 12 (Value.slice (some ⟨b0, 0, none⟩) 5 5); refine (HR1.out _ (by first | exact hrf.out | exact hrfd.out)).mono ?_; rintro e w10 ⟨rfl, hb10⟩; have HB10 := Lib.hid hb10; clear hb10)
      | (go_at_call 30; refine (HSA.out _ (by first | exact HB10.out | exact HB10.out.alloc HB10.out.size _)).mono ?_; rintro e w11 ⟨g11, rfl, ho11, hc11, hb11⟩; have HB11 := Lib.hid hb11; have HO11 := Lib.hid ho11; have HC11 := Lib.hid hc11; clear ho11 hb11 hc11)
      | (refine OwnS.step_append_g (by rfl) _ _ 22 rfl 42 (.agg #[.int .i64 0, .int .i64 0, .int .i64 0, .int .i64 0]) 4 32 Try.underlying22 (by kernel_rfl) rfl (by omega) (by omega) w9.heap.size 5 _ (sampleL.flatMap edgeCells) rfl (by first | exact HO11.out | exact HO11.out.alloc _) ⟨_, 0, none⟩ 1 (edgeCells ⟨11, 1, 2, 5⟩) rfl rfl (by first | exact box_cells _ #[.int .i64 11, .int .i64 1, .int .i64 2, .int .i64 5] 42 _ (by simp) | (intro j u hj; have hc := box_cells w10 #[.int .i64 11, .int .i64 1, .int .i64 2, .int .i64 5] 42 w10.heap.size rfl j u hj; exact (HC11.out.cell (World.block_lt_of_cell? _ _ hc)).trans hc)) (by simp [edgeCells, Value.oneCell']) (by omega) (by have := HB11.out.size; first | omega | (simp; omega)) ?_
         intro v12 w12 ho12 hg12 hor12
         obtain ⟨A12, c12, rfl, _, _⟩ := ho12.slice
         have HB12 : Hid (Below w9.heap.size w9 w12) := by first | exact (HB11.out.alloc HB11.out.size _).grown hg12 (by have := HB11.out.size; simp; omega) (fun j hj => (HO11.out.block hj).1) | exact HB11.out.grown hg12 HB11.out.size (fun j hj => (HO11.out.block hj).1)
         have HL12 := Lib.hid (show RdE w12 A12 (sampleL ++ [⟨11, 1, 2, 5⟩]) from OwnS.rdE (B := w9.heap.size) (c := c12) (l := sampleL ++ [⟨11, 1, 2, 5⟩]) (by rw [samp_cells2]; exact ho12) (by decide))
         clear ho12 hg12 hor12)
      | (go_at_call 12; refine (HR2.out A12 c12 _ HL12.out HB12.out).mono ?_; rintro e w13 ⟨rfl, hb13⟩; have HB13 := Lib.hid hb13; clear hb13))
  all_goals
    replace HA := Lib.hid (HA.out.below HB13.out)
    clear hrf hrfd HB10 HB11 HO11 HC11 HB12 HL12 HB13 HR1 HR2 HSA HCE hW9
    have HC := Lib.hid (aReach HA.out 2 _ (by decide) samp_reach2)
    go_wp2_with fail
    refine HC.out.mono ?_
    rintro e w14 ⟨B1, d1, rfl, hr, hb⟩
    replace HA := Lib.hid (HA.out.below hb)
    clear HC
    have HC := Lib.hid (show Calls Try.prog 15 #[.slice B1 3 d1, .slice (some ⟨w14.heap.size, 0, none⟩) 3 3] (w14.alloc (.cells #[.int .i64 2, .int .i64 3, .int .i64 4] 3)) (fun e w' => e = .returned (.bool true) ∧ Below w14.heap.size w14 w') from aSame [2, 3, 4] hr (by decide))
    clear hr hb
    go_wp2_with fail
    refine HC.out.mono ?_
    rintro e w15 ⟨rfl, hb⟩
    replace HA := Lib.hid (HA.out.below hb)
    clear hb HC
    have HC := Lib.hid (aBack HA.out 2 _ (by decide) samp_back2)
    go_wp2_with fail
    refine HC.out.mono ?_
    rintro e w16 ⟨B2, d2, rfl, hr, hb⟩
    replace HA := Lib.hid (HA.out.below hb)
    clear HC
    have HC := Lib.hid (show Calls Try.prog 15 #[.slice B2 3 d2, .slice (some ⟨w16.heap.size, 0, none⟩) 3 3] (w16.alloc (.cells #[.int .i64 1, .int .i64 2, .int .i64 5] 3)) (fun e w' => e = .returned (.bool true) ∧ Below w16.heap.size w16 w') from aSame [1, 2, 5] hr (by decide))
    clear hr hb
    go_wp2_with fail
    refine HC.out.mono ?_
    rintro e w17 ⟨rfl, hb⟩
    replace HA := Lib.hid (HA.out.below hb)
    clear hb HC
    have HC := Lib.hid (aReach HA.out 9 _ (by decide) samp_reach9)
    go_wp2_with fail
    refine HC.out.mono ?_
    rintro e w18 ⟨B3, d3, rfl, hr, hb⟩
    replace HA := Lib.hid (HA.out.below hb)
    clear HC
    have HC := Lib.hid (show Calls Try.prog 15 #[.slice B3 1 d3, .slice (some ⟨w18.heap.size, 0, none⟩) 1 1] (w18.alloc (.cells #[.int .i64 9] 3)) (fun e w' => e = .returned (.bool true) ∧ Below w18.heap.size w18 w') from aSame [9] hr (by decide))
    clear hr hb
    go_wp2_with fail
    refine HC.out.mono ?_
    rintro e w19 ⟨rfl, hb⟩
    replace HA := Lib.hid (HA.out.below hb)
    clear hb HC
    have hr := HA.out.o
    have hb := True.intro
    have HC := Lib.hid (show Calls Try.prog 15 #[.slice Ao 5 co, .slice (some ⟨w19.heap.size, 0, none⟩) 5 5] (w19.alloc (.cells #[.int .i64 5, .int .i64 1, .int .i64 2, .int .i64 3, .int .i64 4] 3)) (fun e w' => e = .returned (.bool true) ∧ Below w19.heap.size w19 w') from aSame [5, 1, 2, 3, 4] hr (by decide))
    clear hr hb
    go_wp2_with fail
    refine HC.out.mono ?_
    rintro e w20 ⟨rfl, hb⟩
    replace HA := Lib.hid (HA.out.below hb)
    clear hb HC
    have hr := HA.out.p
    have hb := True.intro
    have HC := Lib.hid (show Calls Try.prog 15 #[.slice Ap 2 cp, .slice (some ⟨w20.heap.size, 0, none⟩) 2 2] (w20.alloc (.cells #[.int .i64 13, .int .i64 14] 3)) (fun e w' => e = .returned (.bool true) ∧ Below w20.heap.size w20 w') from aSame [13, 14] hr (by decide))
    clear hr hb
    go_wp2_with fail
    refine HC.out.mono ?_
    rintro e w21 ⟨rfl, hb⟩
    replace HA := Lib.hid (HA.out.below hb)
    clear hb HC
    have hr := HA.out.q
    have hb := True.intro
    have HC := Lib.hid (show Calls Try.prog 15 #[.slice Aq 3 cq, .slice (some ⟨w21.heap.size, 0, none⟩) 3 3] (w21.alloc (.cells #[.int .i64 11, .int .i64 12, .int .i64 14] 3)) (fun e w' => e = .returned (.bool true) ∧ Below w21.heap.size w21 w') from aSame [11, 12, 14] hr (by decide))
    clear hr hb
    go_wp2_with fail
    refine HC.out.mono ?_
    rintro e w22 ⟨rfl, hb⟩
    replace HA := Lib.hid (HA.out.below hb)
    clear hb HC
    go_wp2_with fail
    go_ret
    exact ⟨rfl, HA.out.b⟩
end Go.Proofs.Ytmnkgcnhmkggkaa
