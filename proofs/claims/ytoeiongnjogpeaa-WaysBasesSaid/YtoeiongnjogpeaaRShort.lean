/- Proved here: the reference function Shortest of chapter 05. Condition: the slice reads as accepted edges. -/
import Derived.Test.YtoeiongnjogpeaaLabelsW
import Derived.Test.YtoeiongnjogpeaaShort
import Derived.ChangeShapes
import Derived.Deep.RegionHeld3
namespace Go.Proofs.Ytoeiongnjogpeaa
open Go.RowKit
structure TInv (w0 wr : World) (hA : Nat) (v0 : CK) (g1 : Nat) (u : Int) (v : CK) (ov : Value) (pre : List Int) : Prop where
  c10 : wr.cell? ⟨hA, 1, none⟩ = some (.int .i64 (v0.1 : Int))
  x12 : wr.heap[g1]? = some (.cells #[.int .i64 u, .int .i64 (v.1 : Int), .int .i64 (v.2 : Int), .bool true] 133 (0, 0))
  own : OwnI wr w0.heap.size ov pre
  ne : ∀ j, ov.ownBlock = some j → j ≠ g1
  gg : w0.heap.size ≤ g1
  hh : hA < w0.heap.size
  below : Below w0.heap.size w0 wr
theorem TInv.of_below {w0 wr w' : World} {hA : Nat} {v0 : CK} {g1 : Nat} {u : Int} {v : CK} {ov : Value} {pre : List Int} (h : TInv w0 wr hA v0 g1 u v ov pre) (hb : Below wr.heap.size wr w') : TInv w0 w' hA v0 g1 u v ov pre :=
  ⟨(hb.cell (World.block_lt_of_cell? wr _ h.c10)).trans h.c10, (hb.block _ (Array.getElem?_eq_some_iff.1 h.x12).1).trans h.x12, h.own.below hb, h.ne, h.gg, h.hh, below_in h.below hb h.below.size⟩
theorem xb_store {W : World} {H : Nat} {p q r z : Value} (h : W.heap[H]? = some (.cells #[p, q, r, z] 133 (0, 0))) (a b c d : Value) : ((((W.setCell ⟨H, 0, none⟩ a).setCell ⟨H, 1, none⟩ b).setCell ⟨H, 2, none⟩ c).setCell ⟨H, 3, none⟩ d).heap[H]? = some (.cells #[a, b, c, d] 133 (0, 0)) := by
  simp [World.setCell, Array.getElem?_modify, h]
theorem xb_frozen {W : World} {H : Nat} {p q r z : Value} (h : W.heap[H]? = some (.cells #[p, q, r, z] 133 (0, 0))) : W.frozen? ⟨H, 0, none⟩ = false ∧ W.frozen? ⟨H, 1, none⟩ = false ∧ W.frozen? ⟨H, 2, none⟩ = false ∧ W.frozen? ⟨H, 3, none⟩ = false := by
  refine ⟨?_, ?_, ?_, ?_⟩ <;> simp [World.frozen?, h]
theorem set_grown (W : World) (g o : Nat) (v : Value) : W.grownBy (W.setCell ⟨g, o, none⟩ v) (some g) := ⟨rfl, rfl, rfl, by simp [World.setCell], fun k hk hne => Below.heap_setCell _ _ _ _ (fun hh => hne (by rw [hh]))⟩
theorem TInv.append {w0 wr w' : World} {hA : Nat} {v0 : CK} {g1 : Nat} {u : Int} {v : CK} {ov v' : Value} {pre : List Int} {x : Int} (h : TInv w0 wr hA v0 g1 u v ov pre) (hg : wr.grownBy w' ov.ownBlock)
    (ho : OwnS 3 1 w' w0.heap.size v' (pre.length + 1) (pre.map (Value.int .i64) ++ [.int .i64 x])) (hor : v'.ownBlock = ov.ownBlock ∨ ∃ k, v'.ownBlock = some k ∧ wr.heap.size ≤ k) : TInv w0 w' hA v0 g1 u v v' (pre ++ [x]) := by
  have hsz : g1 < wr.heap.size := (Array.getElem?_eq_some_iff.1 h.x12).1
  have hgg := h.gg
  have hhh := h.hh
  have hlo : ∀ j, ov.ownBlock = some j → w0.heap.size ≤ j := fun j hj => (OwnS.block h.own hj).1
  refine ⟨(World.cell?_of_block (hg.block hA (by omega) (fun e => by have := hlo _ e.symm; omega))).trans h.c10, (hg.block g1 hsz (fun e => h.ne g1 e.symm rfl)).trans h.x12, ?_, fun j hj e => ?_, h.gg, h.hh, h.below.grown hg h.below.size (fun j hj => hlo j hj)⟩
  · show OwnS _ _ _ _ _ _ _
    simpa using ho
  · rcases hor with h1 | ⟨k, h1, h2⟩
    · exact h.ne j (h1 ▸ hj) e
    · rw [hj] at h1; cases h1; omega
theorem TInv.set1 {w0 W : World} {hA g1 : Nat} {ov : Value} {pre : List Int} {cv : Value} (hgg : w0.heap.size ≤ g1) (hh : hA < w0.heap.size) (hne : ∀ j, ov.ownBlock = some j → j ≠ g1) (o : Nat) (x : Value)
    (h : W.cell? ⟨hA, 1, none⟩ = some cv ∧ OwnI W w0.heap.size ov pre ∧ Below w0.heap.size w0 W) : (W.setCell ⟨g1, o, none⟩ x).cell? ⟨hA, 1, none⟩ = some cv ∧ OwnI (W.setCell ⟨g1, o, none⟩ x) w0.heap.size ov pre ∧ Below w0.heap.size w0 (W.setCell ⟨g1, o, none⟩ x) := by
  obtain ⟨h1, h2, h3⟩ := h
  have hg := set_grown W g1 o x
  have := h3.size
  exact ⟨(World.cell?_of_block (hg.block hA (by omega) (fun e => by have := Option.some.inj e; omega))).trans h1, OwnS.grown h2 hg (fun j hj e => hne j hj (Option.some.inj e)), h3.grown hg h3.size (fun j hj => by cases hj; omega)⟩
theorem TInv.store {w0 wr : World} {hA : Nat} {v0 : CK} {g1 : Nat} {u : Int} {v : CK} {ov : Value} {pre : List Int} (h : TInv w0 wr hA v0 g1 u v ov pre) (u' : Int) (v' : CK) :
    TInv w0 ((((wr.setCell ⟨g1, 0, none⟩ (.int .i64 u')).setCell ⟨g1, 1, none⟩ (.int .i64 (v'.1 : Int))).setCell ⟨g1, 2, none⟩ (.int .i64 (v'.2 : Int))).setCell ⟨g1, 3, none⟩ (.bool true)) hA v0 g1 u' v' ov pre := by
  have z := TInv.set1 (w0 := w0) (pre := pre) h.gg h.hh h.ne 3 (.bool true) (TInv.set1 h.gg h.hh h.ne 2 (.int .i64 (v'.2 : Int)) (TInv.set1 h.gg h.hh h.ne 1 (.int .i64 (v'.1 : Int)) (TInv.set1 h.gg h.hh h.ne 0 (.int .i64 u') ⟨h.c10, h.own, h.below⟩)))
  exact ⟨z.1, xb_store h.x12 _ _ _ _, z.2.1, h.ne, h.gg, h.hh, z.2.2⟩
theorem TInv.fresh {w0 wr : World} {hA : Nat} {v0 : CK} {g1 : Nat} {u : Int} {v : CK} {ov : Value} {pre : List Int} (h : TInv w0 wr hA v0 g1 u v ov pre) :
    TInv w0 (wr.alloc (.cells #[.int .i64 u, .int .i64 (v.1 : Int), .int .i64 (v.2 : Int), .bool true] 133)) hA v0 wr.heap.size u v ov pre := by
  have k := h.of_below (box_below wr (.cells #[.int .i64 u, .int .i64 (v.1 : Int), .int .i64 (v.2 : Int), .bool true] 133))
  exact ⟨k.c10, heap_alloc_new _ _, k.own, fun j hj e => by have := (OwnS.block h.own hj).2.1; omega, h.below.size, h.hh, k.below⟩
set_option maxRecDepth 100000 in
set_option maxHeartbeats 4000000 in
theorem rshort_any (A : Option Addr) (c : Nat) (l : List Edge) (f t : Int) (w : World) (hl : RdE w A l) (hr : Right l) :
    Calls Try.prog 80 #[.slice A l.length c, .int .i64 f, .int .i64 t] w fun e w' => ∃ A' c' ids n ok, e = .returned (.tuple #[.slice A' ids.length c', .int .i64 n, .bool ok]) ∧ ShortR l f t ids n ok ∧ RdI w' A' ids ∧ Below w.heap.size w w' := by
  have hm := hl.1
  have h200 := hr.len
  have HL := Lib.hid hl
  have HR := Lib.hid hr
  have HC := Lib.hid (labels_any A c l t w hl hr)
  have hntl := nodesT_len l t
  clear hl hr
  go_enter Try.func80, Try.ntmps80
  go_wp2_with fail
  refine HC.out.mono ?_
  rintro e w1 ⟨AA, cc, b, rfl, hrd, hlab, hbest, hb⟩
  have HB := Lib.hid hb
  have HRD := Lib.hid hrd
  have HLAB := Lib.hid hlab
  have HBEST := Lib.hid hbest
  have HF := Lib.hid (fun n W (h : Below w1.heap.size w1 W) => lfind_any AA cc (nodesT l t) b n W (hrd.below h) (hlab.mem n))
  clear hb hrd hlab hbest HC
  have HF1 := Lib.hid (HF.out f w1 (Below.refl _ _))
  go_wp2_with fail
  refine HF1.out.mono ?_
  rintro e w2 ⟨rfl, hb⟩
  have HB2 := Lib.hid hb
  clear hb HF1
  cases hf : b f with
  | none =>
    have HS := Lib.hid (show ShortR l f t [] 0 false from ⟨b, HBEST.out, .inl ⟨hf, rfl, rfl, rfl⟩⟩)
    clear hf
    simp only [Option.isSome_none, ckN, Option.getD_none]
    go_wp2_with fail
    go_ret3
    exact ⟨none, 0, [], 0, false, rfl, HS.out, ⟨by simp, by simp⟩, (below_in HB.out HB2.out HB.out.size).alloc (by have := HB.out.size; have := HB2.out.size; omega) _⟩
  | some v0 =>
    have hv0 := HLAB.out.le HR.out hf
    have HFV := Lib.hid hf
    clear hf
    simp only [Option.isSome_some, ckN, Option.getD_some]
    go_wp2_with fail
    obtain ⟨W3, hW3⟩ : ∃ W3, W3 = (w2.alloc (.cells #[.int .i64 f, .int .i64 (v0.1 : Int), .int .i64 (v0.2 : Int), .bool true] 133)).alloc (.cells #[.int .i64 f, .int .i64 (v0.1 : Int), .int .i64 (v0.2 : Int), .bool true] 133) := ⟨_, rfl⟩
    obtain ⟨w0, hw0⟩ : ∃ w0, w0 = w2.alloc (.cells #[.int .i64 f, .int .i64 (v0.1 : Int), .int .i64 (v0.2 : Int), .bool true] 133) := ⟨_, rfl⟩
    have HS0 : Hid (TInv w0 W3 w2.heap.size v0 (w2.heap.size + 1) f v0 (.slice none 0 0) []) := by
      have hs : w0.heap.size = w2.heap.size + 1 := by rw [hw0]; simp
      have h1 : W3 = w0.alloc (.cells #[.int .i64 f, .int .i64 (v0.1 : Int), .int .i64 (v0.2 : Int), .bool true] 133) := by rw [hW3, hw0]
      refine ⟨?_, ?_, OwnI.nil _ _, Lib.hid (fun j (hj : (Value.slice none 0 0).ownBlock = some j) => by cases hj), by omega, by omega, by rw [h1]; exact box_below _ _⟩
      · rw [h1]
        exact keepc _ (by rw [hw0]; exact box_cell _ _ _ _ _ rfl)
      · rw [h1, ← hs]
        exact heap_alloc_new _ _
    have HB0 := Lib.hid (show Below w1.heap.size w1 w0 by rw [hw0]; exact HB2.out.alloc HB2.out.size _)
    rw [← hW3]
    clear hW3 hw0 HB2
    go_loopg [11, 12] v0.2 (fun g ov pv wr => ∃ (g1 : Nat) (u : Int) (v : CK) (pre : List Int), pv = .pointer (some ⟨g1, 0, none⟩) ∧ g = v.2 ∧ pre.length + v.2 ≤ 200 ∧ Hid (b u = some v) ∧ Hid (TInv w0 wr w2.heap.size v0 g1 u v ov pre) ∧ Hid (∀ ids, PathR l b t u ids → PathR l b t f (pre ++ ids)))
    case atStart => exact ⟨w2.heap.size + 1, f, v0, [], rfl, rfl, by simp; omega, HFV.out, HS0.out, fun ids h => h⟩
    case round =>
      clear HS0
      obtain ⟨g1, u, v, pre, rfl, hg, hpl, HV, HI, HPR⟩ := hrel
      obtain ⟨A1, c1, rfl⟩ := HI.out.own.slice
      obtain ⟨y0, y1, y2, y3⟩ := xb_cells HI.out.x12
      have yt := HI.out.c10
      by_cases hv2 : v.2 = 0
      · have hut := (HBEST.out.sound u v HV.out).zero hv2
        have t1 : decide (0 < v.2) = false := by simp; omega
        have t2 : decide ((0 : Int) < (v.2 : Int)) = false := by simp; omega
        have HSR := Lib.hid (show ShortR l f t pre v0.1 true from ⟨b, HBEST.out, .inr ⟨v0, HFV.out, by
          have := HPR.out [] (by rw [hut]; exact PathR.nil)
          rwa [List.append_nil] at this, rfl, rfl⟩⟩)
        have HBF := Lib.hid (below_in HB.out (below_in HB0.out HI.out.below HB0.out.size) HB.out.size)
        clear hut hv2 hg
        go_wp2_with fail
        go_big_quiet (fail)
        go_wp2_with fail
        go_ret3
        exact ⟨A1, c1, pre, _, true, rfl, HSR.out, HI.out.own.rdI, below_drewN HBF.out _⟩
      · have hut : u ≠ t := fun h => by
          have h1 := HV.out
          rw [h, HBEST.out.zero] at h1
          cases h1
          exact hv2 rfl
        have t1 : 0 < v.2 := by omega
        have t2 : (0 : Int) < (v.2 : Int) := by omega
        obtain ⟨e, x, hfind, hmem, hsrc, hdst, hval⟩ := HBEST.out.next HV.out hut
        obtain ⟨k0, hk0, hek, hgood, hmin⟩ := find_idx hfind
        have HNX := Lib.hid (show ∀ ids, PathR l b t e.dst ids → PathR l b t f ((pre ++ [e.id]) ++ ids) from fun ids h => by
          rw [List.append_assoc]
          exact HPR.out _ (PathR.cons u e ids hut hfind h))
        have HEK := Lib.hid hek
        have HGOOD := Lib.hid hgood
        have HMIN := Lib.hid hmin
        have HDST := Lib.hid hdst
        have HVAL := Lib.hid hval
        have HBW := Lib.hid (below_in HB0.out HI.out.below HB0.out.size)
        clear hut hfind hmem hsrc hdst hval hek hgood hmin hv2 y0 y1 y2 y3 yt
        have y2 := (xb_cells HI.out.x12).2.2.1
        go_wp2_with fail
        go_loopw [11, 13] (fun ov i wq => ∃ j : Nat, j ≤ k0 ∧ i = .int .i64 j ∧ ov = .slice A1 pre.length c1 ∧ Hid (Below wr.heap.size wr wq)) (fun _ i _ => l.length - (intOf i).toNat)
        case atStart => exact ⟨0, Nat.zero_le _, rfl, rfl, Below.refl _ _⟩
        case round =>
          clear y2
          obtain ⟨j, hj, rfl, rfl, HBQ⟩ := hrel
          have i1 : ((j : Int) < (l.length : Int)) := by omega
          have hlj : j < l.length := by omega
          obtain ⟨a, rfl⟩ := HL.out.addr hlj
          have hbw1 : Below w1.heap.size w1 wr := below_in HBW.out HBQ.out HBW.out.size
          have hbw : Below w.heap.size w wr := below_in HB.out hbw1 HB.out.size
          obtain ⟨x0, x1, x2, x3⟩ := HL.out.at_ hbw hlj
          have HFJ := Lib.hid (HF.out (edAt l j).dst wr hbw1)
          go_wp2_with fail
          refine HFJ.out.mono ?_
          rintro e5 w5 ⟨rfl, hb5⟩
          go_wp2_with fail
          have hvb : (ckN (b (edAt l j).dst)).1 ≤ 200000000 ∧ (ckN (b (edAt l j).dst)).2 ≤ 200 := by
            cases hd : b (edAt l j).dst with
            | none => simp [ckN]
            | some v => exact HLAB.out.le HR.out hd
          have hek := HR.out.ok _ (edAt_mem hlj)
          unfold EdgeOk at hek
          have hgj := (show j = k0 → (edAt l j).src = u ∧ addC (edAt l j) (ckN (b (edAt l j).dst)) = v ∧ (b (edAt l j).dst).isSome = true from fun h => by
            subst h
            rw [HEK.out]
            have hg2 := HGOOD.out
            rw [← HEK.out] at hg2
            unfold goodB at hg2
            rw [Bool.and_eq_true, HEK.out] at hg2
            rw [HDST.out]
            exact ⟨of_decide_eq_true hg2.1, HVAL.out.symm, rfl⟩)
          have hbj := (show j ≠ k0 → ¬ ((edAt l j).src = u ∧ addC (edAt l j) (ckN (b (edAt l j).dst)) = v ∧ (b (edAt l j).dst).isSome = true) from fun h hh => by
            have := HMIN.out j (by omega)
            unfold goodB at this
            obtain ⟨h1, h2, h3⟩ := hh
            cases hd : b (edAt l j).dst with
            | none => rw [hd] at h3; cases h3
            | some y =>
              rw [hd] at this h2
              rw [decide_eq_true h1, Bool.true_and] at this
              have h4 := of_decide_eq_false this
              exact h4 (by rw [HV.out, ← h2]; rfl))
          obtain ⟨W6, hW6⟩ : ∃ W6, W6 = w5.alloc (.cells #[.int .i64 (edAt l j).dst, .int .i64 ((ckN (b (edAt l j).dst)).1 : Int), .int .i64 ((ckN (b (edAt l j).dst)).2 : Int), .bool (b (edAt l j).dst).isSome] 133) := ⟨_, rfl⟩
          have HB6 := Lib.hid (show Below wr.heap.size wr W6 by rw [hW6]; exact hb5.alloc hb5.size _)
          have HI6 := Lib.hid ((HI.out.of_below HBQ.out).of_below HB6.out)
          have hz0 : W6.heap[w5.heap.size]? = some (.cells #[.int .i64 (edAt l j).dst, .int .i64 ((ckN (b (edAt l j).dst)).1 : Int), .int .i64 ((ckN (b (edAt l j).dst)).2 : Int), .bool (b (edAt l j).dst).isSome] 133 (0, 0)) := by rw [hW6]; exact heap_alloc_new _ _
          rw [← hW6]
          have hL6 := HL.out.at_ (below_in hbw HB6.out hbw.size) hlj
          have hth := fun W => through_any (edAt l j) (edAt l j).dst (ckN (b (edAt l j).dst)) (b (edAt l j).dst).isSome W hek.2.2.2.2.1 hek.2.2.2.2.2 hvb
          have HED := Lib.hid (show j = k0 → (edAt l j).id = e.id ∧ (edAt l j).dst = e.dst from fun h => by subst h; rw [HEK.out]; exact ⟨rfl, rfl⟩)
          obtain ⟨ed, hed⟩ : ∃ ed, ed = edAt l j := ⟨_, rfl⟩
          rw [← hed] at hgj hbj hz0 hL6 hth HED ⊢
          obtain ⟨vx, hvx⟩ : ∃ vx, vx = ckN (b ed.dst) := ⟨_, rfl⟩
          obtain ⟨okx, hokx⟩ : ∃ okx, okx = (b ed.dst).isSome := ⟨_, rfl⟩
          rw [← hvx, ← hokx] at hgj hbj hz0 hth ⊢
          have hz := xb_cells hz0
          have hx12 := xb_cells HI6.out.x12
          have HCK := Lib.hid (show ∀ W, Below W6.heap.size W6 W → W.cell? (a.add (j * 4)) = some (.int .i64 ed.id) ∧ W.cell? ⟨(a.add (j * 4)).block, (a.add (j * 4)).off + 1, none⟩ = some (.int .i64 ed.src) ∧ W.cell? ⟨(a.add (j * 4)).block, (a.add (j * 4)).off + 2, none⟩ = some (.int .i64 ed.dst) ∧ W.cell? ⟨(a.add (j * 4)).block, (a.add (j * 4)).off + 3, none⟩ = some (.int .i64 ed.cost) ∧ W.cell? ⟨w5.heap.size, 0, none⟩ = some (.int .i64 ed.dst) ∧ W.cell? ⟨w5.heap.size, 1, none⟩ = some (.int .i64 (vx.1 : Int)) ∧ W.cell? ⟨w5.heap.size, 2, none⟩ = some (.int .i64 (vx.2 : Int)) ∧ W.cell? ⟨w5.heap.size, 3, none⟩ = some (.bool okx) ∧ W.cell? ⟨g1, 0, none⟩ = some (.int .i64 u) ∧ W.cell? ⟨g1, 1, none⟩ = some (.int .i64 (v.1 : Int)) ∧ W.cell? ⟨g1, 2, none⟩ = some (.int .i64 (v.2 : Int)) ∧ W.cell? ⟨g1, 3, none⟩ = some (.bool true) from fun W h => by
            have z := fun {p : Addr} {v : Value} (hc : W6.cell? p = some v) => (h.cell (World.block_lt_of_cell? W6 p hc)).trans hc
            exact ⟨z hL6.1, z hL6.2.1, z hL6.2.2.1, z hL6.2.2.2, z hz.1, z hz.2.1, z hz.2.2.1, z hz.2.2.2, z hx12.1, z hx12.2.1, z hx12.2.2.1, z hx12.2.2.2⟩)
          have HTH := Lib.hid hth
          have hb0 : Hid (Below W6.heap.size W6 W6) := Below.refl _ _
          have hb1 : Hid (Below W6.heap.size W6 W6.drew) := (Below.refl _ _).drew
          have HZ0 := Lib.hid hz0
          have HZS := Lib.hid hb5.size
          have HVXK := Lib.hid (show j = k0 → vx = x from fun h => by rw [hvx, (HED.out h).2, HDST.out]; rfl)
          clear hW6 hz0 hL6 hth hed hvx hokx hz hx12 hek hvb hb5 hbw hbw1 x0 x1 x2 x3 HFJ
          obtain ⟨q1, hq1⟩ : ∃ q1 : Int, q1 = ((addC ed vx).1 : Int) := ⟨_, rfl⟩
          obtain ⟨q2, hq2⟩ : ∃ q2 : Int, q2 = ((addC ed vx).2 : Int) := ⟨_, rfl⟩
          obtain ⟨n1, hn1⟩ : ∃ n1 : Int, n1 = (vx.1 : Int) := ⟨_, rfl⟩
          obtain ⟨n2, hn2⟩ : ∃ n2 : Int, n2 = (vx.2 : Int) := ⟨_, rfl⟩
          obtain ⟨m1, hm1⟩ : ∃ m1 : Int, m1 = (v.1 : Int) := ⟨_, rfl⟩
          obtain ⟨m2, hm2⟩ : ∃ m2 : Int, m2 = (v.2 : Int) := ⟨_, rfl⟩
          obtain ⟨sr, hsr⟩ : ∃ sr : Int, sr = ed.src := ⟨_, rfl⟩
          have hQ : (j = k0 → sr = u ∧ q1 = m1 ∧ q2 = m2 ∧ okx = true) ∧ (j ≠ k0 → ¬ (sr = u ∧ q1 = m1 ∧ q2 = m2 ∧ okx = true)) := by
            refine ⟨fun h => ?_, fun h hh => ?_⟩
            · obtain ⟨h1, h2, h3⟩ := hgj h
              exact ⟨hsr.trans h1, by rw [hq1, hm1, h2], by rw [hq2, hm2, h2], h3⟩
            · obtain ⟨h1, h2, h3, h4⟩ := hh
              refine hbj h ⟨hsr.symm.trans h1, Prod.ext ?_ ?_, h4⟩
              · omega
              · omega
          have hck := HCK.out
          have hth := HTH.out
          simp only [← hq1, ← hq2, ← hn1, ← hn2, ← hm1, ← hm2, ← hsr] at hck hth
          clear HCK HTH hgj hbj
          have HCK := Lib.hid hck
          have HTH := Lib.hid hth
          have HQ := Lib.hid hQ
          have HV1 := Lib.hid hm1
          have HV2 := Lib.hid hm2
          have HM1 := Lib.hid hn1
          have HM2 := Lib.hid hn2
          clear hck hth hQ hq1 hq2 hm1 hm2 hn1 hn2 hsr
          by_cases hjk : j = k0
          · obtain ⟨e1, e2, e3, rfl⟩ := HQ.out.1 hjk
            have s1 : (sr == u) = true := by simp [e1]
            have s2 : (q1 == m1) = true := by simp [e2]
            have s3 : (q2 == m2) = true := by simp [e3]
            obtain ⟨p1, p2⟩ := HED.out hjk
            obtain rfl := HVXK.out hjk
            have HP1 := Lib.hid p1
            have HP2 := Lib.hid p2
            clear e1 e2 e3 HQ HED HVXK p1 p2 hjk
            go_wp2_with fail
            go_region_held3 (fun W : World => W.cell? (a.add (j * 4)) = some (.int .i64 ed.id) ∧ W.cell? ⟨(a.add (j * 4)).block, (a.add (j * 4)).off + 1, none⟩ = some (.int .i64 sr) ∧ W.cell? ⟨(a.add (j * 4)).block, (a.add (j * 4)).off + 2, none⟩ = some (.int .i64 ed.dst) ∧ W.cell? ⟨(a.add (j * 4)).block, (a.add (j * 4)).off + 3, none⟩ = some (.int .i64 ed.cost) ∧ W.cell? ⟨w5.heap.size, 0, none⟩ = some (.int .i64 ed.dst) ∧ W.cell? ⟨w5.heap.size, 1, none⟩ = some (.int .i64 n1) ∧ W.cell? ⟨w5.heap.size, 2, none⟩ = some (.int .i64 n2) ∧ W.cell? ⟨w5.heap.size, 3, none⟩ = some (.bool true) ∧ W.cell? ⟨g1, 0, none⟩ = some (.int .i64 u) ∧ W.cell? ⟨g1, 1, none⟩ = some (.int .i64 m1) ∧ W.cell? ⟨g1, 2, none⟩ = some (.int .i64 m2) ∧ W.cell? ⟨g1, 3, none⟩ = some (.bool true)) (first | exact HCK.out _ hb0.out | exact HCK.out _ hb1.out | exact HCK.out _ HB7.out)
              (first | (go_at_call 117; refine (HTH.out _).mono ?_; rintro e w7 ⟨rfl, hb7⟩; have HB7 := Lib.hid (show Below W6.heap.size W6 w7 from by first | exact hb7 | exact below_in hb1.out hb7 hb1.out.size); clear hb7))
            all_goals
              have hI7 := HI6.out.of_below HB7.out
              have hz7 := (HB7.out.block _ (Array.getElem?_eq_some_iff.1 HZ0.out).1).trans HZ0.out
              have cid := (HCK.out w7 HB7.out).1
              have HI7 := Lib.hid hI7
              have HZ7 := Lib.hid hz7
              have HSZ7 := Lib.hid hI7.below.size
              clear hI7 hz7 HI6 HZ0
              go_wp2_with (at_builtin; refine OwnS.wp_append rfl _ _ 25 rfl 3 (.int .i64 0) 1 8 Try.underlying25 (by kernel_rfl) rfl (by omega) (by omega) w0.heap.size pre.length _ (pre.map (Value.int .i64)) rfl (OwnS.alloc HI7.out.own _) ⟨w7.heap.size, 0, none⟩ 1 [.int .i64 ed.id] rfl rfl (box_cells _ #[.int .i64 ed.id] 3 _ rfl) (by simp [Value.oneCell']) (by omega) (by have := HSZ7.out; simp; omega) ?_)
              intro v' w8 ho8 hg8 hor8
              have hI8 := (HI7.out.of_below (box_below w7 (.cells #[.int .i64 ed.id] 3))).append hg8 ho8 (by simpa using hor8)
              have hzl : w5.heap.size < w7.heap.size := (Array.getElem?_eq_some_iff.1 HZ7.out).1
              have hzn : some w5.heap.size ≠ (Value.slice A1 pre.length c1).ownBlock := fun e => by
                have h1 := (OwnS.block HI.out.own e.symm).2.1
                have h2 := HZS.out
                have h3 := HBQ.out.size
                omega
              have hz8 := (hg8.block w5.heap.size (by simp; omega) hzn).trans (((box_below w7 (.cells #[.int .i64 ed.id] 3)).block w5.heap.size hzl).trans HZ7.out)
              clear hzl hzn
              have hI9 := hI8.store ed.dst vx
              rw [← HM1.out, ← HM2.out] at hI9
              have hI10 := hI9.fresh
              have e10 : ((((w8.setCell ⟨g1, 0, none⟩ (.int .i64 ed.dst)).setCell ⟨g1, 1, none⟩ (.int .i64 n1)).setCell ⟨g1, 2, none⟩ (.int .i64 n2)).setCell ⟨g1, 3, none⟩ (.bool true)).heap.size = w8.heap.size := by simp [World.setCell]
              rw [← HM1.out, ← HM2.out, e10] at hI10
              have HI10 := Lib.hid hI10
              obtain ⟨z0, z1, z2, z3⟩ := xb_cells hz8
              have hx8 := hI8.x12
              have hx9 := hI9.x12
              rw [← HM1.out, ← HM2.out] at hx9
              obtain ⟨b0, b1, b2, b3⟩ := xb_cells hx8
              obtain ⟨d0, d1, d2, d3⟩ := xb_frozen hx8
              obtain ⟨c0, c1', c2, c3⟩ := xb_cells hx9
              obtain ⟨A8, c8, rfl, _, _⟩ := ho8.slice
              clear ho8 hg8 hor8 hI8 hz8 hI9 hI10 e10 hx8 hx9 cid HI7 HZ7 HSZ7
              go_wp2_with fail
              go_roundg vx.2
              case measure =>
                have h1 : v.2 = vx.2 + 1 := by rw [HVAL.out]; rfl
                omega
              case rel => exact ⟨_, ed.dst, vx, pre ++ [ed.id], rfl, rfl, by
                have h1 : v.2 = vx.2 + 1 := by rw [HVAL.out]; rfl
                simp; omega, by rw [HP2.out]; exact HDST.out, by
                have h1 := HI10.out
                rw [HM1.out, HM2.out] at h1
                exact h1, by rw [HP1.out, HP2.out]; exact HNX.out⟩
          · have hn := HQ.out.2 hjk
            have hcase : (sr == u) = false ∨ ((sr == u) = true ∧ (q1 == m1) = false) ∨ ((sr == u) = true ∧ (q1 == m1) = true ∧ (q2 == m2) = false) ∨ ((sr == u) = true ∧ (q1 == m1) = true ∧ (q2 == m2) = true ∧ okx = false) := by
              by_cases h1 : sr = u
              · by_cases h2 : q1 = m1
                · by_cases h3 : q2 = m2
                  · refine .inr (.inr (.inr ⟨by simp [h1], by simp [h2], by simp [h3], ?_⟩))
                    rw [Bool.eq_false_iff]
                    exact fun h4 => hn ⟨h1, h2, h3, h4⟩
                  · exact .inr (.inr (.inl ⟨by simp [h1], by simp [h2], by simp [h3]⟩))
                · exact .inr (.inl ⟨by simp [h1], by simp [h2]⟩)
              · exact .inl (by simp [h1])
            have hj1 : j + 1 ≤ k0 := by omega
            clear hn HQ HED HZ0 HZS HVXK HV1 HV2 HM1 HM2 hjk
            rcases hcase with s1 | ⟨s1, s2⟩ | ⟨s1, s2, s3⟩ | ⟨s1, s2, s3, rfl⟩
            · skip
              go_wp2_with fail
              go_region_held3 (fun W : World => W.cell? (a.add (j * 4)) = some (.int .i64 ed.id) ∧ W.cell? ⟨(a.add (j * 4)).block, (a.add (j * 4)).off + 1, none⟩ = some (.int .i64 sr) ∧ W.cell? ⟨(a.add (j * 4)).block, (a.add (j * 4)).off + 2, none⟩ = some (.int .i64 ed.dst) ∧ W.cell? ⟨(a.add (j * 4)).block, (a.add (j * 4)).off + 3, none⟩ = some (.int .i64 ed.cost) ∧ W.cell? ⟨w5.heap.size, 0, none⟩ = some (.int .i64 ed.dst) ∧ W.cell? ⟨w5.heap.size, 1, none⟩ = some (.int .i64 n1) ∧ W.cell? ⟨w5.heap.size, 2, none⟩ = some (.int .i64 n2) ∧ W.cell? ⟨w5.heap.size, 3, none⟩ = some (.bool okx) ∧ W.cell? ⟨g1, 0, none⟩ = some (.int .i64 u) ∧ W.cell? ⟨g1, 1, none⟩ = some (.int .i64 m1) ∧ W.cell? ⟨g1, 2, none⟩ = some (.int .i64 m2) ∧ W.cell? ⟨g1, 3, none⟩ = some (.bool true)) (first | exact HCK.out _ hb0.out | exact HCK.out _ hb1.out | exact HCK.out _ HB7.out)
                (first | (go_at_call 117; refine (HTH.out _).mono ?_; rintro e w7 ⟨rfl, hb7⟩; have HB7 := Lib.hid (show Below W6.heap.size W6 w7 from by first | exact hb7 | exact below_in hb1.out hb7 hb1.out.size); clear hb7))
              all_goals
                have HB8 := Lib.hid (below_in HBQ.out (below_in HB6.out HB7.out HB6.out.size) HBQ.out.size)
                go_wp2_with fail
                go_roundw
                case rel => exact ⟨j + 1, hj1, by go_num, rfl, HB8.out⟩
                case measure => simp [intOf]; omega
            · skip
              go_wp2_with fail
              go_region_held3 (fun W : World => W.cell? (a.add (j * 4)) = some (.int .i64 ed.id) ∧ W.cell? ⟨(a.add (j * 4)).block, (a.add (j * 4)).off + 1, none⟩ = some (.int .i64 sr) ∧ W.cell? ⟨(a.add (j * 4)).block, (a.add (j * 4)).off + 2, none⟩ = some (.int .i64 ed.dst) ∧ W.cell? ⟨(a.add (j * 4)).block, (a.add (j * 4)).off + 3, none⟩ = some (.int .i64 ed.cost) ∧ W.cell? ⟨w5.heap.size, 0, none⟩ = some (.int .i64 ed.dst) ∧ W.cell? ⟨w5.heap.size, 1, none⟩ = some (.int .i64 n1) ∧ W.cell? ⟨w5.heap.size, 2, none⟩ = some (.int .i64 n2) ∧ W.cell? ⟨w5.heap.size, 3, none⟩ = some (.bool okx) ∧ W.cell? ⟨g1, 0, none⟩ = some (.int .i64 u) ∧ W.cell? ⟨g1, 1, none⟩ = some (.int .i64 m1) ∧ W.cell? ⟨g1, 2, none⟩ = some (.int .i64 m2) ∧ W.cell? ⟨g1, 3, none⟩ = some (.bool true)) (first | exact HCK.out _ hb0.out | exact HCK.out _ hb1.out | exact HCK.out _ HB7.out)
                (first | (go_at_call 117; refine (HTH.out _).mono ?_; rintro e w7 ⟨rfl, hb7⟩; have HB7 := Lib.hid (show Below W6.heap.size W6 w7 from by first | exact hb7 | exact below_in hb1.out hb7 hb1.out.size); clear hb7))
              all_goals
                have HB8 := Lib.hid (below_in HBQ.out (below_in HB6.out HB7.out HB6.out.size) HBQ.out.size)
                go_wp2_with fail
                go_roundw
                case rel => exact ⟨j + 1, hj1, by go_num, rfl, HB8.out⟩
                case measure => simp [intOf]; omega
            · skip
              go_wp2_with fail
              go_region_held3 (fun W : World => W.cell? (a.add (j * 4)) = some (.int .i64 ed.id) ∧ W.cell? ⟨(a.add (j * 4)).block, (a.add (j * 4)).off + 1, none⟩ = some (.int .i64 sr) ∧ W.cell? ⟨(a.add (j * 4)).block, (a.add (j * 4)).off + 2, none⟩ = some (.int .i64 ed.dst) ∧ W.cell? ⟨(a.add (j * 4)).block, (a.add (j * 4)).off + 3, none⟩ = some (.int .i64 ed.cost) ∧ W.cell? ⟨w5.heap.size, 0, none⟩ = some (.int .i64 ed.dst) ∧ W.cell? ⟨w5.heap.size, 1, none⟩ = some (.int .i64 n1) ∧ W.cell? ⟨w5.heap.size, 2, none⟩ = some (.int .i64 n2) ∧ W.cell? ⟨w5.heap.size, 3, none⟩ = some (.bool okx) ∧ W.cell? ⟨g1, 0, none⟩ = some (.int .i64 u) ∧ W.cell? ⟨g1, 1, none⟩ = some (.int .i64 m1) ∧ W.cell? ⟨g1, 2, none⟩ = some (.int .i64 m2) ∧ W.cell? ⟨g1, 3, none⟩ = some (.bool true)) (first | exact HCK.out _ hb0.out | exact HCK.out _ hb1.out | exact HCK.out _ HB7.out)
                (first | (go_at_call 117; refine (HTH.out _).mono ?_; rintro e w7 ⟨rfl, hb7⟩; have HB7 := Lib.hid (show Below W6.heap.size W6 w7 from by first | exact hb7 | exact below_in hb1.out hb7 hb1.out.size); clear hb7))
              all_goals
                have HB8 := Lib.hid (below_in HBQ.out (below_in HB6.out HB7.out HB6.out.size) HBQ.out.size)
                go_wp2_with fail
                go_roundw
                case rel => exact ⟨j + 1, hj1, by go_num, rfl, HB8.out⟩
                case measure => simp [intOf]; omega
            · skip
              go_wp2_with fail
              go_region_held3 (fun W : World => W.cell? (a.add (j * 4)) = some (.int .i64 ed.id) ∧ W.cell? ⟨(a.add (j * 4)).block, (a.add (j * 4)).off + 1, none⟩ = some (.int .i64 sr) ∧ W.cell? ⟨(a.add (j * 4)).block, (a.add (j * 4)).off + 2, none⟩ = some (.int .i64 ed.dst) ∧ W.cell? ⟨(a.add (j * 4)).block, (a.add (j * 4)).off + 3, none⟩ = some (.int .i64 ed.cost) ∧ W.cell? ⟨w5.heap.size, 0, none⟩ = some (.int .i64 ed.dst) ∧ W.cell? ⟨w5.heap.size, 1, none⟩ = some (.int .i64 n1) ∧ W.cell? ⟨w5.heap.size, 2, none⟩ = some (.int .i64 n2) ∧ W.cell? ⟨w5.heap.size, 3, none⟩ = some (.bool false) ∧ W.cell? ⟨g1, 0, none⟩ = some (.int .i64 u) ∧ W.cell? ⟨g1, 1, none⟩ = some (.int .i64 m1) ∧ W.cell? ⟨g1, 2, none⟩ = some (.int .i64 m2) ∧ W.cell? ⟨g1, 3, none⟩ = some (.bool true)) (first | exact HCK.out _ hb0.out | exact HCK.out _ hb1.out | exact HCK.out _ HB7.out)
                (first | (go_at_call 117; refine (HTH.out _).mono ?_; rintro e w7 ⟨rfl, hb7⟩; have HB7 := Lib.hid (show Below W6.heap.size W6 w7 from by first | exact hb7 | exact below_in hb1.out hb7 hb1.out.size); clear hb7))
              all_goals
                have HB8 := Lib.hid (below_in HBQ.out (below_in HB6.out HB7.out HB6.out.size) HBQ.out.size)
                go_wp2_with fail
                go_roundw
                case rel => exact ⟨j + 1, hj1, by go_num, rfl, HB8.out⟩
                case measure => simp [intOf]; omega
end Go.Proofs.Ytoeiongnjogpeaa
