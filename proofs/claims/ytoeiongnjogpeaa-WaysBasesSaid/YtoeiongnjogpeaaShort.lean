/- Proved here: the function Shortest of the package graph. Condition: the slice reads as accepted edges. -/
import Derived.Test.YtoeiongnjogpeaaGood
import Derived.Test.YtoeiongnjogpeaaPlainG
import Derived.ChangeShapes
namespace Go.Proofs.Ytoeiongnjogpeaa
open Go.RowKit
structure SInv (w wr : World) (g0 n : Nat) (b : Int → Option CK) (v0 : CK) (g1 : Nat) (u : Int) (ov : Value) (pre : List Int) : Prop where
  c0 : wr.cell? ⟨g0, 0, none⟩ = some (.map (some w.heap.size))
  ct : wr.cell? ⟨g0 + 1, 0, none⟩ = some (.int .i64 (v0.1 : Int))
  cn : wr.heap[g1]? = some (.cells #[.int .i64 u] 3 (0, 0))
  im : IMap.IM wr w.heap.size n (costM b)
  own : OwnS 3 1 wr (g0 + 2) ov pre.length (pre.map (Value.int .i64))
  ne : ∀ j, ov.ownBlock = some j → j ≠ g1
  gg : g0 + 2 ≤ g1
  ww : w.heap.size < g0
  below : Below w.heap.size w wr
theorem SInv.of_below {w wr w' : World} {g0 n : Nat} {b : Int → Option CK} {v0 : CK} {g1 : Nat} {u : Int} {ov : Value} {pre : List Int} (h : SInv w wr g0 n b v0 g1 u ov pre) (hb : Below wr.heap.size wr w') : SInv w w' g0 n b v0 g1 u ov pre := by
  have z : ∀ (p : Addr) (x : Value), wr.cell? p = some x → w'.cell? p = some x := fun p x h => (hb.cell (World.block_lt_of_cell? wr p h)).trans h
  exact ⟨z _ _ h.c0, z _ _ h.ct, (hb.block _ (Array.getElem?_eq_some_iff.1 h.cn).1).trans h.cn, h.im.below hb h.im.lt, h.own.below hb, h.ne, h.gg, h.ww, below_in h.below hb h.below.size⟩
theorem SInv.append {w wr w' : World} {g0 n : Nat} {b : Int → Option CK} {v0 : CK} {g1 : Nat} {u : Int} {ov v' : Value} {pre : List Int} {x : Int} (h : SInv w wr g0 n b v0 g1 u ov pre) (hg : wr.grownBy w' ov.ownBlock)
    (ho : OwnS 3 1 w' (g0 + 2) v' (pre.length + 1) (pre.map (Value.int .i64) ++ [.int .i64 x])) (hor : v'.ownBlock = ov.ownBlock ∨ ∃ k, v'.ownBlock = some k ∧ wr.heap.size ≤ k) : SInv w w' g0 n b v0 g1 u v' (pre ++ [x]) := by
  have hsz : g1 < wr.heap.size := (Array.getElem?_eq_some_iff.1 h.cn).1
  have hgg := h.gg
  have hww := h.ww
  have hlo : ∀ j, ov.ownBlock = some j → g0 + 2 ≤ j := fun j hj => (h.own.block hj).1
  have z : ∀ (p : Addr) (x : Value), p.block < g0 + 2 → wr.cell? p = some x → w'.cell? p = some x := fun p x hp hc =>
    (World.cell?_of_block (hg.block p.block (by omega) (fun e => by have := hlo _ e.symm; omega))).trans hc
  refine ⟨z _ _ (by dsimp only; omega) h.c0, z _ _ (by dsimp only; omega) h.ct, (hg.block g1 hsz (fun e => h.ne g1 e.symm rfl)).trans h.cn, h.im.kept hg (fun e => by have := hlo _ e.symm; omega), by simpa using ho, fun j hj e => ?_, h.gg, h.ww, h.below.grown hg h.below.size (fun j hj => by have := hlo j hj; omega)⟩
  rcases hor with h1 | ⟨k, h1, h2⟩
  · exact h.ne j (h1 ▸ hj) e
  · rw [hj] at h1; cases h1; omega
theorem SInv.store {w wr : World} {g0 n : Nat} {b : Int → Option CK} {v0 : CK} {g1 : Nat} {u : Int} {ov : Value} {pre : List Int} (h : SInv w wr g0 n b v0 g1 u ov pre) (x : Int) : SInv w (wr.setCell ⟨g1, 0, none⟩ (.int .i64 x)) g0 n b v0 g1 x ov pre := by
  have hgg := h.gg
  have hww := h.ww
  have hg : wr.grownBy (wr.setCell ⟨g1, 0, none⟩ (.int .i64 x)) (some g1) := ⟨rfl, rfl, rfl, by simp [World.setCell], fun k hk hne => Below.heap_setCell _ _ _ _ (fun hh => hne (by rw [hh]))⟩
  have hsz : g1 < wr.heap.size := (Array.getElem?_eq_some_iff.1 h.cn).1
  have z : ∀ (p : Addr) (y : Value), p.block < g0 + 2 → wr.cell? p = some y → (wr.setCell ⟨g1, 0, none⟩ (.int .i64 x)).cell? p = some y := fun p y hp hc =>
    (World.cell?_of_block (hg.block p.block (by omega) (fun e => by have := Option.some.inj e; omega))).trans hc
  refine ⟨z _ _ (by dsimp only; omega) h.c0, z _ _ (by dsimp only; omega) h.ct, ?_, h.im.kept hg (fun e => by have := Option.some.inj e; omega), h.own.grown hg (fun j hj e => h.ne j hj (Option.some.inj e)), h.ne, h.gg, h.ww, h.below.grown hg h.below.size (fun j hj => by cases hj; omega)⟩
  have := h.cn
  simp [World.setCell, Array.getElem?_modify, this]
theorem SInv.fresh {w wr : World} {g0 n : Nat} {b : Int → Option CK} {v0 : CK} {g1 : Nat} {u : Int} {ov : Value} {pre : List Int} (h : SInv w wr g0 n b v0 g1 u ov pre) : SInv w (wr.alloc (.cells #[.int .i64 u] 3)) g0 n b v0 wr.heap.size u ov pre := by
  have k := h.of_below (box_below wr (.cells #[.int .i64 u] 3))
  have hgg := h.gg
  have hsz : g1 < wr.heap.size := (Array.getElem?_eq_some_iff.1 h.cn).1
  exact ⟨k.c0, k.ct, heap_alloc_new _ _, k.im, k.own, fun j hj e => by have := (h.own.block hj).2.1; omega, by omega, h.ww, k.below⟩
theorem SInv.cell {w wr : World} {g0 n : Nat} {b : Int → Option CK} {v0 : CK} {g1 : Nat} {u : Int} {ov : Value} {pre : List Int} (h : SInv w wr g0 n b v0 g1 u ov pre) : wr.cell? ⟨g1, 0, none⟩ = some (.int .i64 u) ∧ wr.frozen? ⟨g1, 0, none⟩ = false := by
  have := h.cn
  constructor
  · simp [World.cell?, this]
  · simp [World.frozen?, this]
theorem keepc {W : World} {p : Addr} {x : Value} (o : Obj) (h : W.cell? p = some x) : (W.alloc o).cell? p = some x := ((box_below W o).cell (World.block_lt_of_cell? W p h)).trans h
set_option maxRecDepth 100000 in
set_option maxHeartbeats 2000000 in
theorem short_any (A : Option Addr) (c : Nat) (l : List Edge) (f t : Int) (w : World) (hl : RdE w A l) (hr : Right l) :
    Calls Try.prog 76 #[.slice A l.length c, .int .i64 f, .int .i64 t] w fun e w' => ∃ v ids n ok, e = .returned (.tuple #[v, .int .i64 n, .bool ok]) ∧ ShortR l f t ids n ok ∧ ids.length ≤ 200 ∧ OwnS 3 1 w' w.heap.size v ids.length (ids.map (Value.int .i64)) ∧ Below w.heap.size w w' := by
  have hm := hl.1
  have HL := Lib.hid hl
  have HR := Lib.hid hr
  have HC := Lib.hid (costs_any A c l t w hl hr)
  clear hl hr
  go_enter Try.func76, Try.ntmps76
  go_wp2_with fail
  refine HC.out.mono ?_
  rintro e w1 ⟨b, n, rfl, him, hlab, hbest, hb⟩
  have hlk1 : (Instr.lookup 123 (.map (some w.heap.size)) (.int .i64 f) true).run Try.prog (w1.alloc (.cells #[.map (some w.heap.size)] 123)) = .ok (.tuple #[(costM b f).getD (ckV (0, 0)), .bool (costM b f).isSome]) (w1.alloc (.cells #[.map (some w.heap.size)] 123)) := (him.alloc _).lookup_ok Try.underlying123 Try.underlying3 (by kernel_rfl) _
  have HIM := Lib.hid him
  have HLAB := Lib.hid hlab
  have HBEST := Lib.hid hbest
  have HB := Lib.hid hb
  clear him hlab hbest hb HC
  cases hf : b f with
  | none =>
    have e1 : costM b f = none := by unfold costM; rw [hf]; rfl
    rw [e1] at hlk1
    simp only [Option.getD_none, Option.isSome_none] at hlk1
    unfold ckV at hlk1
    have HS := Lib.hid (show ShortR l f t [] 0 false from ⟨b, HBEST.out, .inl ⟨hf, rfl, rfl, rfl⟩⟩)
    clear hf e1
    go_wp2_with fail
    go_ret3
    exact ⟨_, [], 0, false, rfl, HS.out, by simp, OwnS.nil _ _ _ _, (HB.out.alloc HB.out.size _).alloc (by have := HB.out.size; simp; omega) _⟩
  | some v0 =>
    have e1 : costM b f = some (ckV v0) := by unfold costM; rw [hf]; rfl
    rw [e1] at hlk1
    simp only [Option.getD_some, Option.isSome_some] at hlk1
    unfold ckV at hlk1
    have hv0 := HLAB.out.le HR.out hf
    have HF := Lib.hid hf
    clear hf e1
    go_wp2_with fail
    have HS0 : Hid (SInv w (((w1.alloc (.cells #[.map (some w.heap.size)] 123)).alloc (.cells #[.int .i64 (v0.1 : Int), .int .i64 (v0.2 : Int)] 126)).alloc (.cells #[.int .i64 f] 3)) w1.heap.size n b v0 (w1.heap.size + 2) f (.slice none 0 0) []) := by
      have h0 : w.heap.size < w1.heap.size := HIM.out.lt
      refine ⟨?_, ?_, ?_, ((HIM.out.alloc _).alloc _).alloc _, OwnS.nil _ _ _ _, Lib.hid (fun j (hj : (Value.slice none 0 0).ownBlock = some j) => by cases hj), Nat.le_refl _, h0, ((HB.out.alloc HB.out.size _).alloc (by simp; omega) _).alloc (by simp; omega) _⟩
      · exact keepc _ (keepc _ (box_cell _ _ _ _ _ rfl))
      · have h1 := box_cell (w1.alloc (.cells #[.map (some w.heap.size)] 123)) #[.int .i64 (v0.1 : Int), .int .i64 (v0.2 : Int)] 126 0 _ rfl
        have e1 : (w1.alloc (.cells #[.map (some w.heap.size)] 123)).heap.size = w1.heap.size + 1 := by simp
        rw [e1] at h1
        exact keepc _ h1
      · have h1 := heap_alloc_new ((w1.alloc (.cells #[.map (some w.heap.size)] 123)).alloc (.cells #[.int .i64 (v0.1 : Int), .int .i64 (v0.2 : Int)] 126)) (.cells #[.int .i64 f] 3)
        have e1 : ((w1.alloc (.cells #[.map (some w.heap.size)] 123)).alloc (.cells #[.int .i64 (v0.1 : Int), .int .i64 (v0.2 : Int)] 126)).heap.size = w1.heap.size + 2 := by simp
        rw [e1] at h1
        exact h1
    obtain ⟨W3, hW3⟩ : ∃ W3, W3 = ((w1.alloc (.cells #[.map (some w.heap.size)] 123)).alloc (.cells #[.int .i64 (v0.1 : Int), .int .i64 (v0.2 : Int)] 126)).alloc (.cells #[.int .i64 f] 3) := ⟨_, rfl⟩
    rw [← hW3] at HS0 ⊢
    obtain ⟨g0, hg0⟩ : ∃ g0, g0 = w1.heap.size := ⟨_, rfl⟩
    have e0 : w1.heap.size + 1 + 1 = g0 + 2 := by omega
    rw [← hg0] at HS0 ⊢
    clear hW3 hlk1 HIM HB hg0 e0
    go_loopg [12, 13] v0.2 (fun g ov pv wr => ∃ (g1 : Nat) (u : Int) (v : CK) (pre : List Int), pv = .pointer (some ⟨g1, 0, none⟩) ∧ g = v.2 ∧ pre.length + v.2 ≤ 200 ∧ Hid (b u = some v) ∧ Hid (SInv w wr g0 n b v0 g1 u ov pre) ∧ Hid (∀ ids, PathR l b t u ids → PathR l b t f (pre ++ ids)))
    case atStart => exact ⟨g0 + 2, f, v0, [], rfl, rfl, by simp; omega, HF.out, HS0.out, fun ids h => h⟩
    case round =>
      clear HS0
      obtain ⟨g1, u, v, pre, rfl, hg, hpl, HV, HI, HPR⟩ := hrel
      obtain ⟨A1, c1, rfl, _, _⟩ := HI.out.own.slice
      have y0 := HI.out.c0
      obtain ⟨y1, y2⟩ := HI.out.cell
      have yt := HI.out.ct
      by_cases hut : u = t
      · have t1 : (u != t) = false := by simp [hut]
        have HSR := Lib.hid (show ShortR l f t pre v0.1 true from ⟨b, HBEST.out, .inr ⟨v0, HF.out, by
          have := HPR.out [] (by rw [hut]; exact PathR.nil)
          rwa [List.append_nil] at this, rfl, rfl⟩⟩)
        clear hut
        go_wp2_with fail
        go_quiet (fail)
        go_wp2_with fail
        go_ret3
        exact ⟨_, pre, _, true, rfl, HSR.out, by omega, (HI.out.own.drewN _).mono (by have := HI.out.ww; omega), below_drewN HI.out.below _⟩
      · have t1 : (u != t) = true := by simp [hut]
        obtain ⟨e, x, hfind, hmem, hsrc, hdst, hval⟩ := HBEST.out.next HV.out hut
        obtain ⟨k0, hk0, hek, hgood, hmin⟩ := find_idx hfind
        have HNX := Lib.hid (show ∀ ids, PathR l b t e.dst ids → PathR l b t f ((pre ++ [e.id]) ++ ids) from fun ids h => by
          rw [List.append_assoc]
          exact HPR.out _ (PathR.cons u e ids hut hfind h))
        have hlk : (Instr.lookup 123 (.map (some w.heap.size)) (.int .i64 u) false).run Try.prog wr = .ok ((costM b u).getD (ckV (0, 0))) wr := HI.out.im.lookup Try.underlying123 Try.underlying3 (by kernel_rfl) _
        have e1 : costM b u = some (ckV v) := by unfold costM; rw [HV.out]; rfl
        rw [e1] at hlk
        simp only [Option.getD_some] at hlk
        unfold ckV at hlk
        obtain ⟨a, rfl⟩ := HL.out.addr hk0
        have hI2 := HI.out.of_below (box_below wr (.cells #[.int .i64 (v.1 : Int), .int .i64 (v.2 : Int)] 126))
        have hif := indexFunc_any (some a) c l HR.out g0 g1 wr.heap.size w.heap.size n b u v (wr.alloc (.cells #[.int .i64 (v.1 : Int), .int .i64 (v.2 : Int)] 126)) (HL.out.below hI2.below)
          ⟨hI2.c0, hI2.cell.1, box_cell _ _ _ _ _ rfl, box_cell _ _ _ _ _ rfl, hI2.im⟩ HV.out (fun y x h => HLAB.out.le HR.out h) k0 hk0 (by rw [hek]; exact hgood) hmin
        have HI2 := Lib.hid hI2
        have HIF := Lib.hid hif
        have HE := Lib.hid hek
        have HDST := Lib.hid hdst
        have HVX := Lib.hid (show v.2 = x.2 + 1 by rw [hval]; rfl)
        clear hut hfind hmem hsrc hgood hmin e1 hI2 hif hek hdst hval HI HPR
        go_wp2_with fail
        refine HIF.out.mono ?_
        rintro e' w3 ⟨rfl, hb3⟩
        have hI3 := HI2.out.of_below hb3
        have HI3 := Lib.hid hI3
        have i1 : ((k0 : Int) < (l.length : Int)) := by omega
        obtain ⟨c0, c1', c2, c3⟩ := HL.out.at_ hI3.below hk0
        rw [HE.out] at c0 c1' c2 c3
        have hsz3 := hI3.below.size
        have hww := hI3.ww
        have hg0 : g0 < w3.heap.size := World.block_lt_of_cell? _ _ hI3.c0
        have hgl : g0 + 2 ≤ w3.heap.size := by
          have := (Array.getElem?_eq_some_iff.1 hI3.cn).1
          have := hI3.gg
          omega
        clear hb3 hI3 HI2 HIF hlk y0 y1 y2 yt
        go_wp2_with (at_builtin; refine OwnS.wp_append rfl _ _ 25 rfl 3 (.int .i64 0) 1 8 Try.underlying25 (by kernel_rfl) rfl (by omega) (by omega) (g0 + 2) pre.length _ (pre.map (Value.int .i64)) rfl (HI3.out.own.alloc _) ⟨w3.heap.size, 0, none⟩ 1 [.int .i64 e.id] rfl rfl (box_cells _ #[.int .i64 e.id] 3 _ rfl) (by simp [Value.oneCell']) (by omega) (by simp; omega) ?_)
        intro v' w4 ho4 hg4 hor4
        have hI4 := (HI3.out.of_below (box_below w3 (.cells #[.int .i64 e.id] 3))).append hg4 ho4 (by simpa using hor4)
        have hI5 := hI4.store e.dst
        obtain ⟨z1, z2⟩ := hI4.cell
        have z3 := hI5.cell.1
        obtain ⟨d0, d1, d2, d3⟩ := HL.out.at_ hI4.below hk0
        rw [HE.out] at d0 d1 d2 d3
        have hI6 := hI5.fresh
        have e6 : (w4.setCell ⟨g1, 0, none⟩ (.int .i64 e.dst)).heap.size = w4.heap.size := by simp [World.setCell]
        rw [e6] at hI6
        have HI6 := Lib.hid hI6
        obtain ⟨A4, c4, rfl, _, _⟩ := ho4.slice
        clear ho4 hg4 hor4 hI4 hI5 hI6 e6 HI3 c0 c1' c2 c3
        go_wp2_with fail
        go_roundg x.2
        case measure => have := HVX.out; omega
        case rel => exact ⟨_, e.dst, x, pre ++ [e.id], rfl, rfl, by have := HVX.out; simp; omega, HDST.out, HI6.out, HNX.out⟩
end Go.Proofs.Ytoeiongnjogpeaa
