/- Proved here: the reference function labels of chapter 05: the walk. Condition: the slice reads as accepted edges. -/
import Derived.Test.YtoeiongnjogpeaaLabAll
import Derived.Deep.DeepMust
namespace Go.Proofs.Ytoeiongnjogpeaa
open Go.RowKit
def bStart (t : Int) : Int → Option CK := fun n => if n = t then some (0, 0) else none
theorem lbs_take {N : List Int} (b : Int → Option CK) {k : Nat} (h : k < N.length) : lbsL (N.take (k + 1)) b = lbsL (N.take k) b ++ lbC (numAt N k) (b (numAt N k)) := by
  unfold lbsL; rw [take_num h, List.flatMap_append]; simp
/-- What one edge does to the labels. -/
def better (b : Int → Option CK) (e : Edge) : Bool := lessL (b e.dst).isSome (addC e (ckN (b e.dst))) (b e.src).isSome (ckN (b e.src))
theorem better_true {b : Int → Option CK} {e : Edge} (h : better b e = true) : ∃ v, b e.dst = some v ∧ ∀ x, b e.src = some x → ltC (addC e v) x := by
  unfold better lessL at h
  cases hd : b e.dst with
  | none => rw [hd] at h; simp at h
  | some v =>
    refine ⟨v, rfl, fun x hx => ?_⟩
    rw [hd, hx] at h
    simp [ckN] at h
    exact of_decide_eq_true h
theorem better_false {b : Int → Option CK} {e : Edge} (h : better b e = false) : Relaxed b e := by
  intro v hv
  unfold better lessL at h
  rw [hv] at h
  cases hs : b e.src with
  | none => rw [hs] at h; simp at h
  | some x =>
    rw [hs] at h
    simp [ckN] at h
    exact ⟨x, rfl, of_decide_eq_false h⟩
def zObj : Obj := .cells #[.int .i64 0, .int .i64 0, .int .i64 0, .bool false] 133
theorem zb_keep {W w5 : World} (hb : Below (W.alloc (.cells #[.int .i64 0, .int .i64 0, .int .i64 0, .bool false] 133)).heap.size (W.alloc (.cells #[.int .i64 0, .int .i64 0, .int .i64 0, .bool false] 133)) w5) : w5.heap[W.heap.size]? = some zObj :=
  (hb.block _ (by simp)).trans (heap_alloc_new _ _)
theorem zb_keepd {W w5 : World} (hb : Below (W.alloc (.cells #[.int .i64 0, .int .i64 0, .int .i64 0, .bool false] 133)).drew.heap.size (W.alloc (.cells #[.int .i64 0, .int .i64 0, .int .i64 0, .bool false] 133)).drew w5) : w5.heap[W.heap.size]? = some zObj :=
  (hb.block _ (by simp [World.drew])).trans (heap_alloc_new _ _)
theorem zb_next {W w6 : World} {H : Nat} (h : W.heap[H]? = some zObj) (hb : Below W.heap.size W w6) : w6.heap[H]? = some zObj :=
  (hb.block _ (Array.getElem?_eq_some_iff.1 h).1).trans h
theorem zb_cells {W : World} {H : Nat} (h : W.heap[H]? = some zObj) : (W.cell? ⟨H, 0, none⟩ = some (.int .i64 0) ∧ W.cell? ⟨H, 1, none⟩ = some (.int .i64 0) ∧ W.cell? ⟨H, 2, none⟩ = some (.int .i64 0) ∧ W.cell? ⟨H, 3, none⟩ = some (.bool false)) ∧
    W.frozen? ⟨H, 0, none⟩ = false ∧ W.frozen? ⟨H, 1, none⟩ = false ∧ W.frozen? ⟨H, 2, none⟩ = false ∧ W.frozen? ⟨H, 3, none⟩ = false := by
  unfold zObj at h
  refine ⟨⟨?_, ?_, ?_, ?_⟩, ?_, ?_, ?_, ?_⟩ <;> simp [World.cell?, World.frozen?, h]
theorem zb_store {W : World} {H : Nat} (h : W.heap[H]? = some zObj) (a b c d : Value) : ((((W.setCell ⟨H, 0, none⟩ a).setCell ⟨H, 1, none⟩ b).setCell ⟨H, 2, none⟩ c).setCell ⟨H, 3, none⟩ d).heap[H]? = some (.cells #[a, b, c, d] 133 (0, 0)) := by
  unfold zObj at h
  simp [World.setCell, Array.getElem?_modify, h]
theorem xb_cells {W : World} {H : Nat} {a b c d : Value} (h : W.heap[H]? = some (.cells #[a, b, c, d] 133 (0, 0))) : W.cell? ⟨H, 0, none⟩ = some a ∧ W.cell? ⟨H, 1, none⟩ = some b ∧ W.cell? ⟨H, 2, none⟩ = some c ∧ W.cell? ⟨H, 3, none⟩ = some d := by
  refine ⟨?_, ?_, ?_, ?_⟩ <;> simp [World.cell?, h]
theorem sc_below {B H j : Nat} {w W : World} (h : Below B w W) (hB : B ≤ H) (v : Value) : Below B w (W.setCell ⟨H, j, none⟩ v) :=
  ⟨h.os, h.tape, h.output, by have := h.size; simpa [World.setCell] using this, fun k hk => (Below.heap_setCell _ _ _ _ (fun e => by have e2 : k = H := e; omega)).trans (h.block k hk)⟩
set_option maxRecDepth 100000 in
set_option maxHeartbeats 4000000 in
theorem labels_any (A : Option Addr) (c : Nat) (l : List Edge) (t : Int) (w : World) (hl : RdE w A l) (hr : Right l) :
    Calls Try.prog 115 #[.slice A l.length c, .int .i64 t] w fun e w' => ∃ A' c' b, e = .returned (.slice A' (nodesT l t).length c') ∧ RdL w' A' (nodesT l t) b ∧ Lab l t b ∧ Best l t b ∧ Below w.heap.size w w' := by
  have hm := hl.1
  have h200 := hr.len
  have HL := Lib.hid hl
  have HR := Lib.hid hr
  have HC := Lib.hid (nodes_any A c l w hl (by omega))
  have hnl := nodesS_len l
  have hntl := nodesT_len l t
  clear hl hr
  go_enter Try.func115, Try.ntmps115
  go_wp2_with fail
  refine HC.out.mono ?_
  rintro e w1 ⟨N1, n1, rfl, hr1, hb⟩
  have HB := Lib.hid hb
  have HC := Lib.hid (put_any N1 n1 (nodesS l) t w1 hr1 (by omega))
  clear hb hr1
  go_wp2_with fail
  refine HC.out.mono ?_
  rintro e w2 ⟨A2, n2, rfl, hr2, hb⟩
  replace HB := Lib.hid (below_in HB.out hb HB.out.size)
  obtain ⟨N, hN⟩ : ∃ N, N = nodesT l t := ⟨_, rfl⟩
  have HN2 := Lib.hid (show RdI w2 A2 N by rw [hN]; exact hr2)
  have HND := Lib.hid (show N.Nodup by rw [hN]; exact nodesT_nodup l t)
  have HMEM := Lib.hid (show ∀ b, Lab l t b → ∀ u, u ∉ N → b u = none by rw [hN]; exact fun b h u => h.mem u)
  have HSRC := Lib.hid (show ∀ e ∈ l, e.src ∈ N by rw [hN]; exact fun e he => src_nodesT he)
  have e1 : (putL (nodesS l) t).length = N.length := by rw [hN]; rfl
  rw [e1]
  rw [← hN] at hntl
  have HNN := Lib.hid hN
  clear hb hr2 HC e1 hN
  go_wp2_with fail
  go_loopw [6, 7] (fun ov i wr => ∃ k : Nat, k ≤ N.length ∧ i = .int .i64 k ∧ Hid (OwnS 133 4 wr w2.heap.size ov k (lbsL (N.take k) (bStart t))) ∧ Hid (Below w2.heap.size w2 wr)) (fun _ i _ => N.length - (intOf i).toNat)
  case atStart => exact ⟨0, Nat.zero_le _, rfl, OwnS.nil _ _ _ _, Below.refl _ _⟩
  case round =>
    obtain ⟨k, hk, rfl, HO, HBW⟩ := hrel
    obtain ⟨A3, c3, rfl, _, _⟩ := HO.out.slice
    by_cases hlt : k < N.length
    · have i1 : ((k : Int) < (N.length : Int)) := by omega
      obtain ⟨a, rfl⟩ := HN2.out.addr hlt
      have HCE := Lib.hid (fun W (h : Below w2.heap.size w2 W) => HN2.out.at_ h hlt)
      have hb0 : Hid (Below w2.heap.size w2 wr) := HBW.out
      have hb1 : Hid (Below w2.heap.size w2 wr.drew) := HBW.out.drew
      have HZ := Lib.hid HBW.out.size
      have HT := Lib.hid (lbs_take (bStart t) hlt)
      obtain ⟨bo, hbo⟩ : ∃ bo, bo = decide (numAt N k = t) := ⟨_, rfl⟩
      have t1 : (numAt N k == t) = bo := by rw [hbo, Bool.eq_iff_iff]; simp
      have HCL := Lib.hid (show lbC (numAt N k) (bStart t (numAt N k)) = [.int .i64 (numAt N k), .int .i64 0, .int .i64 0, .bool bo] by
        rw [hbo]
        by_cases h : numAt N k = t <;> simp [bStart, h, lbC])
      clear hbo
      have HG := Lib.hid (fun (W : World) (hg : (wr.alloc (.cells #[.int .i64 (numAt N k), .int .i64 0, .int .i64 0, .bool bo] 133)).drew.grownBy W (Value.slice A3 k c3).ownBlock) =>
        (((HBW.out.alloc HBW.out.size (.cells #[.int .i64 (numAt N k), .int .i64 0, .int .i64 0, .bool bo] 133)).drew).grown hg (by have := HZ.out; simp [World.drew]; omega) (fun k hk => (HO.out.block hk).1) : Below w2.heap.size w2 W))
      go_wp2_with fail
      go_region_held3 (fun W : World => W.cell? (a.add k) = some (.int .i64 (numAt N k))) (first | exact HCE.out _ hb0.out | exact HCE.out _ hb1.out | exact HCE.out _ (hb1.out.alloc hb1.out.size _) | exact HCE.out _ (hb0.out.alloc hb0.out.size _) | exact HCE.out _ (HG.out _ hg4))
        (first | (refine OwnS.step_append rfl _ _ 130 rfl 133 (.agg #[.int .i64 0, .int .i64 0, .int .i64 0, .bool false]) 4 32 Try.underlying130 (by kernel_rfl) rfl (by omega) (by omega) w2.heap.size k _ (lbsL (N.take k) (bStart t)) rfl (HO.out.drew.alloc _) ⟨wr.heap.size, 0, none⟩ 1 [.int .i64 (numAt N k), .int .i64 0, .int .i64 0, .bool bo] rfl rfl (box_cells _ #[.int .i64 (numAt N k), .int .i64 0, .int .i64 0, .bool bo] 133 _ rfl) (by simp [Value.oneCell']) (by omega) (by have := HZ.out; simp; omega) ?_; intro v' w4 ho4 hg4 _))
      all_goals
        have HB4 := Lib.hid (HG.out _ hg4)
        have HO4 := Lib.hid (show OwnS 133 4 w4 w2.heap.size v' (k + 1) (lbsL (N.take (k + 1)) (bStart t)) by rw [HT.out, HCL.out]; exact ho4)
        clear ho4 hg4
        go_wp2_with fail
        go_roundw
        case rel => exact ⟨k + 1, by omega, by go_num, HO4.out, HB4.out⟩
        case measure => simp [intOf]; omega
    · have hkl : k = N.length := by omega
      subst hkl
      rw [List.take_length] at HO
      have i1 : ¬ ((N.length : Int) < (N.length : Int)) := by omega
      have HLB := Lib.hid (Lab.start l t)
      go_wp2_with fail
      go_loopg [8] (2 * phiC l (bStart t) + 1) (fun g cv wr => ∃ (b : Int → Option CK) (ch : Bool), cv = .bool ch ∧ g = 2 * phiC l b + (if ch then 1 else 0) ∧ Hid (OwnL wr w2.heap.size (.slice A3 N.length c3) N b) ∧ Hid (Lab l t b) ∧ Hid (ch = false → ∀ e ∈ l, Relaxed b e) ∧ Hid (Below w2.heap.size w2 wr))
      case atStart => exact ⟨bStart t, true, rfl, rfl, HO.out, HLB.out, Lib.hid (fun h => by cases h), HBW.out⟩
      case round =>
        clear HO HLB HBW
        obtain ⟨b, ch, rfl, hg, HO, HLB, HX, HBW⟩ := hrel
        cases ch with
        | false =>
          have HRL := Lib.hid (HO.out.rdL (by omega))
          have HRL2 := Lib.hid (show RdL wr A3 (nodesT l t) b by rw [← HNN.out]; exact HRL.out)
          have HBW2 := Lib.hid (below_in HB.out HBW.out HB.out.size)
          go_wp2_with fail
          go_ret
          exact ⟨A3, ⟨c3, by rw [← HNN.out]; rfl⟩, b, HRL2.out, HLB.out, HLB.out.best (by first | exact HX.out rfl | exact HX.out | exact HX.out trivial), HBW2.out⟩
        | true =>
          have HG := Lib.hid hg
          clear hg HX
          go_wp2_with fail
          go_loopw [8, 9] (fun cv i wr => ∃ (k : Nat) (b' : Int → Option CK) (ch : Bool), k ≤ l.length ∧ i = .int .i64 k ∧ cv = .bool ch ∧ Hid (OwnL wr w2.heap.size (.slice A3 N.length c3) N b') ∧ Hid (Lab l t b') ∧ Hid (Pass l b b' k ch) ∧ Hid (Below w2.heap.size w2 wr)) (fun _ i _ => l.length - (intOf i).toNat)
          case atStart => exact ⟨0, b, false, Nat.zero_le _, rfl, rfl, HO.out, HLB.out, Pass.start l b, HBW.out⟩
          case round =>
            clear HO HLB HBW hk hlt i1
            obtain ⟨k, b', ch, hk, rfl, rfl, HO, HLB, HP, HBW⟩ := hrel
            by_cases hlt : k < l.length
            · have i1 : ((k : Int) < (l.length : Int)) := by omega
              obtain ⟨a, rfl⟩ := HL.out.addr hlt
              have hek := HR.out.ok _ (edAt_mem hlt)
              unfold EdgeOk at hek
              have HRL := Lib.hid (HO.out.rdL (by omega))
              have HCE := Lib.hid (fun W (h : Below wr.heap.size wr W) => HL.out.at_ (below_in (below_in HB.out HBW.out HB.out.size) h (by have := HB.out.size; have := HBW.out.size; omega)) hlt)
              have hb0 : Hid (Below wr.heap.size wr wr) := Below.refl _ _
              have hb1 : Hid (Below wr.heap.size wr wr.drew) := (Below.refl _ _).drew
              have hbz : Hid (Below wr.heap.size wr (wr.alloc (.cells #[.int .i64 0, .int .i64 0, .int .i64 0, .bool false] 133)).drew) := (box_below _ _).drew
              obtain ⟨ed, hed⟩ : ∃ ed, ed = edAt l k := ⟨_, rfl⟩
              rw [← hed] at HCE hek
              have hvb : (ckN (b' ed.dst)).1 ≤ 200000000 ∧ (ckN (b' ed.dst)).2 ≤ 200 := by
                cases hd : b' ed.dst with
                | none => simp [ckN]
                | some v => exact HLB.out.le HR.out hd
              have HF := Lib.hid (fun W (h : Below wr.heap.size wr W) => lfind_any A3 c3 N b' ed.dst W (HRL.out.below h) (HMEM.out b' HLB.out ed.dst))
              have HTH := Lib.hid (fun W => through_any ed ed.dst (ckN (b' ed.dst)) (b' ed.dst).isSome W hek.2.2.2.2.1 hek.2.2.2.2.2 hvb)
              have HED := Lib.hid hed
              obtain ⟨v0, hv0⟩ : ∃ v0, v0 = ckN (b' ed.dst) := ⟨_, rfl⟩
              obtain ⟨ok0, hok0⟩ : ∃ ok0, ok0 = (b' ed.dst).isSome := ⟨_, rfl⟩
              rw [← hv0, ← hok0] at HF HTH
              have HV0 := Lib.hid hv0
              have HOK0 := Lib.hid hok0
              clear hed hv0 hok0 hvb hek
              go_wp2_with fail
              go_region_held3 (fun W : World => W.cell? (a.add (k * 4)) = some (.int .i64 ed.id) ∧
                  W.cell? ⟨(a.add (k * 4)).block, (a.add (k * 4)).off + 1, none⟩ = some (.int .i64 ed.src) ∧
                  W.cell? ⟨(a.add (k * 4)).block, (a.add (k * 4)).off + 2, none⟩ = some (.int .i64 ed.dst) ∧
                  W.cell? ⟨(a.add (k * 4)).block, (a.add (k * 4)).off + 3, none⟩ = some (.int .i64 ed.cost)) (first | exact HCE.out _ hb0.out | exact HCE.out _ hb1.out | exact HCE.out _ HB6.out | exact HCE.out _ (HB6.out.alloc HB6.out.size _) | exact HCE.out _ HB5.out | exact HCE.out _ hbz.out | exact HCE.out _ (HB5.out.alloc HB5.out.size _) | exact HCE.out _ (sc_below (sc_below (sc_below (sc_below HB6.out (Nat.le_refl _) _) (Nat.le_refl _) _) (Nat.le_refl _) _) (Nat.le_refl _) _) | exact HCE.out _ (sc_below (sc_below (sc_below (sc_below HB6.out HB5.out.size _) HB5.out.size _) HB5.out.size _) HB5.out.size _))
                (first
                  | (go_at_call 116; (first | refine (HF.out _ hb0.out).mono ?_ | refine (HF.out _ hb1.out).mono ?_ | refine (HF.out _ hbz.out).mono ?_); rintro e w5 ⟨rfl, hb5⟩
                     have HB5 := Lib.hid (show Below wr.heap.size wr w5 from by first | exact hb5 | exact below_in hb1.out hb5 hb1.out.size | exact below_in hbz.out hb5 hbz.out.size)
                     try (have HZ5 := Lib.hid (zb_keepd hb5))
                     clear hb5)
                  | (go_at_call 117; refine (HTH.out _).mono ?_; rintro e w6 ⟨rfl, hb6⟩
                     have HB6 := Lib.hid (show Below wr.heap.size wr w6 from by first | exact below_in HB5.out hb6 HB5.out.size | exact below_in (HB5.out.alloc HB5.out.size _) hb6 (by have := HB5.out.size; simp; omega))
                     try (have HZ6 := Lib.hid (zb_next HZ5.out hb6))
                     try (have HZ6 := Lib.hid (zb_keep hb6))
                     try (have zz := zb_cells HZ6.out; obtain ⟨⟨zc0, zc1, zc2, zc3⟩, zf0, zf1, zf2, zf3⟩ := zz)
                     skip))
              all_goals
                first
                  | (obtain ⟨H, hH⟩ : ∃ H, H = w6.heap.size := ⟨_, rfl⟩
                     obtain ⟨Wf, hWf⟩ : ∃ Wf, Wf = w6.alloc (.cells #[.int .i64 ed.src, .int .i64 ((addC ed v0).1 : Int), .int .i64 ((addC ed v0).2 : Int), .bool ok0] 133) := ⟨_, rfl⟩
                     rw [← hWf, ← hH]
                     have HXB : Hid (Wf.heap[H]? = some (.cells #[.int .i64 ed.src, .int .i64 ((addC ed v0).1 : Int), .int .i64 ((addC ed v0).2 : Int), .bool ok0] 133 (0, 0))) := by rw [hWf, hH]; exact heap_alloc_new _ _
                     have HBF : Hid (Below wr.heap.size wr Wf) := by rw [hWf]; exact HB6.out.alloc HB6.out.size _
                     have HHW : Hid (wr.heap.size ≤ H) := by rw [hH]; first | exact HB6.out.size | exact HB5.out.size | exact Nat.le_refl _
                     clear hH hWf)
                  | (obtain ⟨H, hH⟩ : ∃ H, H = w5.heap.size := ⟨_, rfl⟩
                     obtain ⟨Wf, hWf⟩ : ∃ Wf, Wf = ((((w6.setCell ⟨w5.heap.size, 0, none⟩ (.int .i64 ed.src)).setCell ⟨w5.heap.size, 1, none⟩ (.int .i64 ((addC ed v0).1 : Int))).setCell ⟨w5.heap.size, 2, none⟩ (.int .i64 ((addC ed v0).2 : Int))).setCell ⟨w5.heap.size, 3, none⟩ (.bool ok0)) := ⟨_, rfl⟩
                     rw [← hWf, ← hH]
                     have HXB : Hid (Wf.heap[H]? = some (.cells #[.int .i64 ed.src, .int .i64 ((addC ed v0).1 : Int), .int .i64 ((addC ed v0).2 : Int), .bool ok0] 133 (0, 0))) := by rw [hWf, hH]; exact zb_store HZ6.out _ _ _ _
                     have HBF : Hid (Below wr.heap.size wr Wf) := by rw [hWf]; exact sc_below (sc_below (sc_below (sc_below HB6.out HB5.out.size _) HB5.out.size _) HB5.out.size _) HB5.out.size _
                     have HHW : Hid (wr.heap.size ≤ H) := by rw [hH]; first | exact HB6.out.size | exact HB5.out.size | exact Nat.le_refl _
                     clear hH hWf)
                  | (obtain ⟨H, hH⟩ : ∃ H, H = wr.heap.size := ⟨_, rfl⟩
                     obtain ⟨Wf, hWf⟩ : ∃ Wf, Wf = ((((w6.setCell ⟨wr.heap.size, 0, none⟩ (.int .i64 ed.src)).setCell ⟨wr.heap.size, 1, none⟩ (.int .i64 ((addC ed v0).1 : Int))).setCell ⟨wr.heap.size, 2, none⟩ (.int .i64 ((addC ed v0).2 : Int))).setCell ⟨wr.heap.size, 3, none⟩ (.bool ok0)) := ⟨_, rfl⟩
                     rw [← hWf, ← hH]
                     have HXB : Hid (Wf.heap[H]? = some (.cells #[.int .i64 ed.src, .int .i64 ((addC ed v0).1 : Int), .int .i64 ((addC ed v0).2 : Int), .bool ok0] 133 (0, 0))) := by rw [hWf, hH]; exact zb_store HZ6.out _ _ _ _
                     have HBF : Hid (Below wr.heap.size wr Wf) := by rw [hWf]; exact sc_below (sc_below (sc_below (sc_below HB6.out (Nat.le_refl _) _) (Nat.le_refl _) _) (Nat.le_refl _) _) (Nat.le_refl _) _
                     have HHW : Hid (wr.heap.size ≤ H) := by rw [hH]; first | exact HB6.out.size | exact HB5.out.size | exact Nat.le_refl _
                     clear hH hWf)
                have hmsrc := HSRC.out _ (edAt_mem hlt)
                rw [← HED.out] at hmsrc
                have HMS := Lib.hid hmsrc
                have HO0 := Lib.hid (show OwnL Wf w2.heap.size (.slice A3 N.length c3) N b' from OwnS.below HO.out HBF.out)
                have HBW0 := Lib.hid (below_in HBW.out HBF.out HBW.out.size)
                have HAL := Lib.hid (show ∀ j, (Value.slice A3 N.length c3).ownBlock = some j → j ≠ H from fun j hj => by
                  have h1 := (OwnS.block HO.out hj).2.1
                  have h2 := HHW.out
                  omega)
                obtain ⟨r, hr⟩ : ∃ r : (Int → Option CK) × Bool, r = if better b' ed = true then (updC b' ed.src (addC ed v0), true) else (b', ch) := ⟨_, rfl⟩
                have HRR := Lib.hid hr
                have HBT := Lib.hid (show better b' ed = lessL ok0 (addC ed v0) (b' ed.src).isSome (ckN (b' ed.src)) by unfold better; rw [HV0.out, HOK0.out])
                have hHW2 : w2.heap.size ≤ H := by have h1 := HHW.out; have h2 := HBW.out.size; omega
                have HH2 := Lib.hid hHW2
                clear hmsrc HCE hb0 hb1 hbz HF HTH HRL HB5 HB6 HBF hr hHW2
                go_wp2_with fail
                go_loopw [8, 11] (fun cv i wq => ∃ (j : Nat) (b2 : Int → Option CK) (ch2 : Bool), j ≤ N.length ∧ i = .int .i64 j ∧ cv = .bool ch2 ∧ Hid (OwnL wq w2.heap.size (.slice A3 N.length c3) N b2) ∧ Hid (wq.heap[H]? = some (.cells #[.int .i64 ed.src, .int .i64 ((addC ed v0).1 : Int), .int .i64 ((addC ed v0).2 : Int), .bool ok0] 133 (0, 0))) ∧ Hid (Below w2.heap.size w2 wq) ∧
                  Hid ((ed.src ∈ N.take j → b2 = r.1 ∧ ch2 = r.2) ∧ (ed.src ∉ N.take j → b2 = b' ∧ ch2 = ch))) (fun _ i _ => N.length - (intOf i).toNat)
                case atStart => exact ⟨0, b', ch, Nat.zero_le _, rfl, rfl, HO0.out, HXB.out, HBW0.out, Lib.hid (by simp)⟩
                case round =>
                  clear HO0 HXB HBW0 HO HBW
                  obtain ⟨j, b2, ch2, hj, rfl, rfl, HO, HXB, HBW, HI⟩ := hrel
                  by_cases hlj : j < N.length
                  · have i3 : ((j : Int) < (N.length : Int)) := by omega
                    have HRL := HO.out.rdL (by omega)
                    obtain ⟨a3, rfl⟩ := HRL.addr hlj
                    obtain ⟨z0, z1, z2, z3⟩ := HRL.at_ (Below.refl _ _) hlj
                    obtain ⟨y0, y1, y2, y3⟩ := xb_cells HXB.out
                    have hmt := mem_take_succ hlj ed.src
                    by_cases hn : numAt N j = ed.src
                    · have hnot : ed.src ∉ N.take j := fun hm' => by
                        obtain ⟨i, hi⟩ := List.mem_iff_getElem?.1 hm'
                        rw [List.getElem?_take] at hi
                        split at hi
                        · rename_i hij
                          have h1 := (List.getElem?_eq_some_iff.1 hi)
                          obtain ⟨h1a, h1b⟩ := h1
                          have h2 := numAt_eq hlj
                          rw [List.getElem?_eq_getElem hlj, hn] at h2
                          exact List.pairwise_iff_getElem.1 HND.out i j h1a hlj hij (by rw [h1b, Option.some.inj h2])
                        · cases hi
                      obtain ⟨rfl, rfl⟩ := HI.out.2 hnot
                      obtain ⟨g, o, ha3, _, _⟩ := OwnS.cell (show OwnS 133 4 wr w2.heap.size (.slice (some a3) N.length c3) N.length (lbsL N b2) from HO.out) (j := j * 4) (List.getElem?_eq_getElem (by rw [lbs_len]; omega))
                      cases ha3
                      have f0 := HO.out.frozen hlj (j := 0) (by omega)
                      have f1 := HO.out.frozen hlj (j := 1) (by omega)
                      have f2 := HO.out.frozen hlj (j := 2) (by omega)
                      have f3 := HO.out.frozen hlj (j := 3) (by omega)
                      rw [← Nat.add_assoc] at f0 f1 f2 f3
                      rw [Addr.add_lit] at z0 z1 z2 z3
                      rw [hn] at z0 z1 z2 z3
                      dsimp only at z1 z2 z3
                      have hmem2 := (hmt.2 (.inr hn))
                      obtain ⟨vb, hvb⟩ : ∃ vb, vb = ckN (b2 ed.src) := ⟨_, rfl⟩
                      obtain ⟨ob, hob⟩ : ∃ ob, ob = (b2 ed.src).isSome := ⟨_, rfl⟩
                      rw [← hvb] at z1 z2
                      rw [← hob] at z3
                      have hbt2 := HBT.out
                      rw [← hvb, ← hob] at hbt2
                      have HLE := Lib.hid (fun W => lless_any ed.src ed.src (addC ed v0) vb ok0 ob W)
                      rw [← hbt2] at HLE
                      have HMEM2 := Lib.hid hmem2
                      have HN1 := Lib.hid hn
                      have t9 : (numAt N j == ed.src) = true := by simp [hn]
                      clear hmt hnot HRL hvb hob hbt2 hmem2 hn HI
                      have HCK := Lib.hid (show ∀ W, Below wr.heap.size wr W → W.cell? ⟨g, o + j * 4, none⟩ = some (.int .i64 ed.src) ∧ W.cell? ⟨g, o + j * 4 + 1, none⟩ = some (.int .i64 (vb.1 : Int)) ∧ W.cell? ⟨g, o + j * 4 + 2, none⟩ = some (.int .i64 (vb.2 : Int)) ∧ W.cell? ⟨g, o + j * 4 + 3, none⟩ = some (.bool ob) ∧ W.cell? ⟨H, 0, none⟩ = some (.int .i64 ed.src) ∧ W.cell? ⟨H, 1, none⟩ = some (.int .i64 ((addC ed v0).1 : Int)) ∧ W.cell? ⟨H, 2, none⟩ = some (.int .i64 ((addC ed v0).2 : Int)) ∧ W.cell? ⟨H, 3, none⟩ = some (.bool ok0) from fun W h => by
                        have z := fun {p : Addr} {v : Value} (hc : wr.cell? p = some v) => (h.cell (World.block_lt_of_cell? wr p hc)).trans hc
                        exact ⟨z z0, z z1, z z2, z z3, z y0, z y1, z y2, z y3⟩)
                      have HFZ := Lib.hid (show ∀ W, Below wr.heap.size wr W → W.frozen? ⟨g, o + j * 4, none⟩ = false ∧ W.frozen? ⟨g, o + j * 4 + 1, none⟩ = false ∧ W.frozen? ⟨g, o + j * 4 + 2, none⟩ = false ∧ W.frozen? ⟨g, o + j * 4 + 3, none⟩ = false from fun W h => by
                        have hg : g < wr.heap.size := World.block_lt_of_cell? wr _ z0
                        exact ⟨(h.frozen hg).trans f0, (h.frozen hg).trans f1, (h.frozen hg).trans f2, (h.frozen hg).trans f3⟩)
                      have hb0 : Hid (Below wr.heap.size wr wr) := Below.refl _ _
                      have hb1 : Hid (Below wr.heap.size wr wr.drew) := (Below.refl _ _).drew
                      clear z0 z1 z2 z3 y0 y1 y2 y3 f0 f1 f2 f3
                      cases hbb : better b2 ed with
                      | false =>
                        rw [hbb] at HLE
                        have HRV := Lib.hid (show b2 = r.1 ∧ ch2 = r.2 by rw [HRR.out, hbb]; simp)
                        clear hbb
                        go_wp2_with fail
                        go_region_held3 (fun W : World => W.cell? ⟨g, o + j * 4, none⟩ = some (.int .i64 ed.src) ∧ W.cell? ⟨g, o + j * 4 + 1, none⟩ = some (.int .i64 (vb.1 : Int)) ∧ W.cell? ⟨g, o + j * 4 + 2, none⟩ = some (.int .i64 (vb.2 : Int)) ∧ W.cell? ⟨g, o + j * 4 + 3, none⟩ = some (.bool ob) ∧ W.cell? ⟨H, 0, none⟩ = some (.int .i64 ed.src) ∧ W.cell? ⟨H, 1, none⟩ = some (.int .i64 ((addC ed v0).1 : Int)) ∧ W.cell? ⟨H, 2, none⟩ = some (.int .i64 ((addC ed v0).2 : Int)) ∧ W.cell? ⟨H, 3, none⟩ = some (.bool ok0)) (first | exact HCK.out _ hb0.out | exact HCK.out _ hb1.out | exact HCK.out _ HB7.out)
                          (first | (go_at_call 128; refine (HLE.out _).mono ?_; rintro e w7 ⟨rfl, hb7⟩; have HB7 := Lib.hid (show Below wr.heap.size wr w7 from by first | exact hb7 | exact below_in hb1.out hb7 hb1.out.size); clear hb7))
                        all_goals
                          have HO7 := Lib.hid (show OwnL w7 w2.heap.size (.slice (some ⟨g, o, none⟩) N.length c3) N b2 from OwnS.below HO.out HB7.out)
                          have HX7 := Lib.hid ((HB7.out.block H (Array.getElem?_eq_some_iff.1 HXB.out).1).trans HXB.out)
                          have HB8 := Lib.hid (below_in HBW.out HB7.out HBW.out.size)
                          go_wp2_with fail
                          go_roundw
                          case rel => exact ⟨j + 1, b2, ch2, by omega, by go_num, rfl, HO7.out, HX7.out, HB8.out, ⟨fun _ => HRV.out, fun h => absurd HMEM2.out h⟩⟩
                          case measure => simp [intOf]; omega
                      | true =>
                        rw [hbb] at HLE
                        have HRV := Lib.hid (show updC b2 ed.src (addC ed v0) = r.1 ∧ true = r.2 by rw [HRR.out, hbb]; simp)
                        have hok : ok0 = true := by
                          obtain ⟨v, hv, _⟩ := better_true hbb
                          rw [HOK0.out, hv]; rfl
                        subst hok
                        clear hbb
                        go_wp2_with fail
                        go_region_held3 (fun W : World => W.cell? ⟨g, o + j * 4, none⟩ = some (.int .i64 ed.src) ∧ W.cell? ⟨g, o + j * 4 + 1, none⟩ = some (.int .i64 (vb.1 : Int)) ∧ W.cell? ⟨g, o + j * 4 + 2, none⟩ = some (.int .i64 (vb.2 : Int)) ∧ W.cell? ⟨g, o + j * 4 + 3, none⟩ = some (.bool ob) ∧ W.cell? ⟨H, 0, none⟩ = some (.int .i64 ed.src) ∧ W.cell? ⟨H, 1, none⟩ = some (.int .i64 ((addC ed v0).1 : Int)) ∧ W.cell? ⟨H, 2, none⟩ = some (.int .i64 ((addC ed v0).2 : Int)) ∧ W.cell? ⟨H, 3, none⟩ = some (.bool true)) (first | exact HCK.out _ hb0.out | exact HCK.out _ hb1.out | exact HCK.out _ HB7.out)
                          (first | (go_at_call 128; refine (HLE.out _).mono ?_; rintro e w7 ⟨rfl, hb7⟩; have HB7 := Lib.hid (show Below wr.heap.size wr w7 from by first | exact hb7 | exact below_in hb1.out hb7 hb1.out.size); clear hb7))
                        all_goals
                          have HO7 := Lib.hid (show OwnS 133 4 w7 w2.heap.size (.slice (some ⟨g, o, none⟩) N.length c3) N.length (lbsL N b2) from OwnS.below HO.out HB7.out)
                          have HX7 := Lib.hid ((HB7.out.block H (Array.getElem?_eq_some_iff.1 HXB.out).1).trans HXB.out)
                          have HB8 := Lib.hid (below_in HBW.out HB7.out HBW.out.size)
                          obtain ⟨q0, q1, q2, q3, p0, p1, p2, p3⟩ := HCK.out w7 HB7.out
                          obtain ⟨e0, e1, e2, e3⟩ := HFZ.out w7 HB7.out
                          go_wp2_with fail
                          go_roundw
                          case measure => simp [intOf]; omega
                          case rel =>
                            obtain ⟨s1, b1⟩ := HO7.out.store (j * 4) (.int .i64 (numAt N j))
                            obtain ⟨s2, b2'⟩ := s1.store (j * 4 + 1) (.int .i64 ((addC ed v0).1 : Int))
                            obtain ⟨s3, b3⟩ := s2.store (j * 4 + 2) (.int .i64 ((addC ed v0).2 : Int))
                            obtain ⟨s4, b4⟩ := s3.store (j * 4 + 3) (.bool true)
                            rw [lbs_set HND.out b2 hlj, HN1.out] at s4
                            have hg2 : w2.heap.size ≤ g := (OwnS.block HO7.out (k := g) rfl).1
                            have hHl : H < w7.heap.size := (Array.getElem?_eq_some_iff.1 HX7.out).1
                            have hne : some H ≠ some g := fun e => HAL.out g rfl (Option.some.inj e).symm
                            rw [HN1.out] at b1 b2' b3 b4
                            have k1 := b1.size
                            have k2 := b2'.size
                            have k3 := b3.size
                            have hX := (b4.block H (by omega) hne).trans ((b3.block H (by omega) hne).trans ((b2'.block H (by omega) hne).trans ((b1.block H hHl hne).trans HX7.out)))
                            have h7 := HB8.out.size
                            have hW := (((HB8.out.grown b1 h7 (fun q hq => by cases hq; exact hg2)).grown b2' (by omega) (fun q hq => by cases hq; exact hg2)).grown b3 (by omega) (fun q hq => by cases hq; exact hg2)).grown b4 (by omega) (fun q hq => by cases hq; exact hg2)
                            simp only [← Nat.add_assoc] at s4 hX hW
                            exact ⟨j + 1, updC b2 ed.src (addC ed v0), true, by omega, by go_num, rfl, s4, hX, hW, ⟨fun _ => HRV.out, fun h => absurd HMEM2.out h⟩⟩
                    · have hn' : (numAt N j == ed.src) = false := by simp [hn]
                      have HI2 := Lib.hid (show (ed.src ∈ N.take (j + 1) → b2 = r.1 ∧ ch2 = r.2) ∧ (ed.src ∉ N.take (j + 1) → b2 = b' ∧ ch2 = ch) by
                        rw [hmt]
                        exact ⟨fun h => HI.out.1 (h.resolve_right hn), fun h => HI.out.2 (fun h2 => h (.inl h2))⟩)
                      clear hmt hn HRL
                      go_wp2_with fail
                      go_big_quiet (fail)
                      go_wp2_with fail
                      go_roundw
                      case rel => exact ⟨j + 1, b2, ch2, by omega, by go_num, rfl, OwnS.drewN HO.out _, HXB.out, below_drewN HBW.out _, HI2.out⟩
                      case measure => simp [intOf]; omega
                  · have i3 : ¬ ((j : Int) < (N.length : Int)) := by omega
                    obtain ⟨h1, h2⟩ := HI.out.1 (by rw [List.take_of_length_le (by omega)]; exact HMS.out)
                    have hfin : Lab l t r.1 ∧ Pass l b r.1 (k + 1) r.2 := by
                      rw [HRR.out]
                      have hedm : ed ∈ l := HED.out ▸ edAt_mem hlt
                      cases hbt : better b' ed with
                      | true =>
                        obtain ⟨v, hv, hlt'⟩ := better_true hbt
                        have e0 : v0 = v := by rw [HV0.out, hv]; rfl
                        rw [e0]
                        exact ⟨HLB.out.step hedm hv hlt', HP.out.take (phi_step HR.out HLB.out hedm hv hlt')⟩
                      | false =>
                        have := better_false hbt
                        rw [HED.out] at this
                        exact ⟨HLB.out, HP.out.skip this⟩
                    obtain ⟨r1, r2⟩ := r
                    dsimp only at h1 h2 hfin
                    subst h1
                    subst h2
                    have HFN := Lib.hid hfin
                    clear hfin
                    go_wp2_with fail
                    go_roundw
                    case rel => exact ⟨k + 1, _, _, by omega, by go_num, rfl, HO.out, HFN.out.1, HFN.out.2, HBW.out⟩
                    case measure => simp [intOf]; omega
            · have hkl : k = l.length := by omega
              have i1 : ¬ ((k : Int) < (l.length : Int)) := by omega
              have HX2 := Lib.hid (show ch = false → ∀ e ∈ l, Relaxed b' e from fun hc e he => by
                obtain ⟨rfl, h2⟩ := HP.out.1 hc
                obtain ⟨j, hj, rfl⟩ := mem_edAt he
                exact h2 j (by omega))
              have hphi : 2 * phiC l b' + (if ch = true then 1 else 0) < 2 * phiC l b + 1 := by
                cases ch with
                | false =>
                  obtain ⟨rfl, _⟩ := HP.out.1 rfl
                  simp
                | true =>
                  have := HP.out.2 rfl
                  simp; omega
              have HPHI := Lib.hid hphi
              clear hphi hkl
              go_wp2_with fail
              go_roundg (2 * phiC l b' + (if ch = true then 1 else 0))
              case measure =>
                have h1 := HG.out
                have h2 := HPHI.out
                simp only [if_true] at h1
                omega
              case rel => exact ⟨b', ch, rfl, rfl, HO.out, HLB.out, HX2.out, HBW.out⟩
end Go.Proofs.Ytoeiongnjogpeaa
