/- Proved here: the function that Shortest hands to IndexFunc tells whether an edge begins a best path; and IndexFunc under it. -/
import Derived.Test.YtoeiongnjogpeaaCosts
namespace Go.Proofs.Ytoeiongnjogpeaa
open Go.RowKit
def edV (e : Edge) : Value := .agg #[.int .i64 e.id, .int .i64 e.src, .int .i64 e.dst, .int .i64 e.cost]
/-- What the three boxes hold. -/
structure Boxes (w : World) (g0 g1 g2 mb n : Nat) (b : Int → Option CK) (u : Int) (v : CK) : Prop where
  c0 : w.cell? ⟨g0, 0, none⟩ = some (.map (some mb))
  c1 : w.cell? ⟨g1, 0, none⟩ = some (.int .i64 u)
  c2 : w.cell? ⟨g2, 0, none⟩ = some (.int .i64 (v.1 : Int))
  c3 : w.cell? ⟨g2, 1, none⟩ = some (.int .i64 (v.2 : Int))
  im : IMap.IM w mb n (costM b)
theorem Boxes.below {w w' : World} {g0 g1 g2 mb n : Nat} {b : Int → Option CK} {u : Int} {v : CK} (h : Boxes w g0 g1 g2 mb n b u v) (hb : Below w.heap.size w w') : Boxes w' g0 g1 g2 mb n b u v := by
  have z : ∀ (p : Addr) (x : Value), w.cell? p = some x → w'.cell? p = some x := fun p x h => (hb.cell (World.block_lt_of_cell? w p h)).trans h
  exact ⟨z _ _ h.c0, z _ _ h.c1, z _ _ h.c2, z _ _ h.c3, h.im.below hb h.im.lt⟩
set_option maxRecDepth 100000 in
set_option maxHeartbeats 2000000 in
theorem good_any (e : Edge) (g0 g1 g2 mb n : Nat) (b : Int → Option CK) (u : Int) (v : CK) (w : World) (hB : Boxes w g0 g1 g2 mb n b u v) (hv : b u = some v) (hx : ∀ x, b e.dst = some x → x.1 ≤ 200000000 ∧ x.2 ≤ 200) (hc0 : 0 ≤ e.cost) (hc1 : e.cost ≤ 1000000) :
    Calls Try.prog 113 #[edV e, .pointer (some ⟨g0, 0, none⟩), .pointer (some ⟨g1, 0, none⟩), .pointer (some ⟨g2, 0, none⟩)] w fun e' w' => e' = .returned (.bool (goodB b u e)) ∧ Below w.heap.size w w' := by
  unfold edV
  obtain ⟨W0, hW0⟩ : ∃ W0, W0 = w.alloc (.cells #[.int .i64 e.id, .int .i64 e.src, .int .i64 e.dst, .int .i64 e.cost] 94) := ⟨_, rfl⟩
  have hb0 : Boxes W0 g0 g1 g2 mb n b u v := by rw [hW0]; exact hB.below (box_below _ _)
  have hlk : (Instr.lookup 123 (.map (some mb)) (.int .i64 e.dst) true).run Try.prog W0 = .ok (.tuple #[(costM b e.dst).getD (ckV (0, 0)), .bool (costM b e.dst).isSome]) W0 := hb0.im.lookup_ok Try.underlying123 Try.underlying3 (by kernel_rfl) _
  have hb1 := fun o => hb0.below (box_below W0 o)
  rw [hW0] at hlk hb0 hb1
  have y0 := hb0.c0
  clear hb0 hW0
  cases hd : b e.dst with
  | none =>
    have e1 : costM b e.dst = none := by unfold costM; rw [hd]; rfl
    rw [e1] at hlk
    simp only [Option.getD_none, Option.isSome_none] at hlk
    unfold ckV at hlk
    have HG := Lib.hid (show goodB b u e = false by unfold goodB; rw [hd]; simp)
    clear e1 hd hx hB hv hb1
    go_enter Try.func113, Try.ntmps113
    go_wp2_with fail
    go_ret
    exact ⟨by rw [HG.out]; rfl, ((Below.refl _ _).alloc (Nat.le_refl _) _).alloc (by simp) _⟩
  | some x =>
    have e1 : costM b e.dst = some (ckV x) := by unfold costM; rw [hd]; rfl
    rw [e1] at hlk
    simp only [Option.getD_some, Option.isSome_some] at hlk
    unfold ckV at hlk
    obtain ⟨hx1, hx2⟩ := hx x hd
    have hb2 := hb1 (.cells #[.int .i64 (x.1 : Int), .int .i64 (x.2 : Int)] 126)
    have y1 := hb2.c1
    have y2 := hb2.c2
    have y3 := hb2.c3
    clear hb1 hb2
    by_cases hsrc : e.src = u
    · have t1 : (e.src == u) = true := by simp [hsrc]
      have HG := Lib.hid (show goodB b u e = decide (v = addC e x) by unfold goodB; rw [hd]; simp [hsrc, hv])
      clear e1 hd hx hB hv hsrc
      have hiff : decide (v = addC e x) = (decide ((v.1 : Int) = (x.1 : Int) + e.cost) && decide ((v.2 : Int) = (x.2 : Int) + 1)) := by
        obtain ⟨v1, v2⟩ := v
        rw [Bool.eq_iff_iff]
        simp only [addC, Prod.mk.injEq, Bool.and_eq_true, decide_eq_true_eq]
        omega
      have HIF := Lib.hid hiff
      clear hiff
      by_cases h1 : (v.1 : Int) = (x.1 : Int) + e.cost
      · have h1' : ((v.1 : Int) == (x.1 : Int) + e.cost) = true := by simpa using h1
        by_cases h2 : (v.2 : Int) = (x.2 : Int) + 1
        · have h2' : ((v.2 : Int) == (x.2 : Int) + 1) = true := by simpa using h2
          have HD := Lib.hid (show goodB b u e = true by rw [HG.out, HIF.out, decide_eq_true h1, decide_eq_true h2]; rfl)
          go_enter Try.func113, Try.ntmps113
          go_wp2_with fail
          go_ret
          exact ⟨by rw [HD.out]; rfl, ((Below.refl _ _).alloc (Nat.le_refl _) _).alloc (by simp) _⟩
        · have h2' : ((v.2 : Int) == (x.2 : Int) + 1) = false := by simpa using h2
          have HD := Lib.hid (show goodB b u e = false by rw [HG.out, HIF.out, decide_eq_false h2, Bool.and_false])
          go_enter Try.func113, Try.ntmps113
          go_wp2_with fail
          go_ret
          exact ⟨by rw [HD.out]; rfl, ((Below.refl _ _).alloc (Nat.le_refl _) _).alloc (by simp) _⟩
      · have h1' : ((v.1 : Int) == (x.1 : Int) + e.cost) = false := by simpa using h1
        have HD := Lib.hid (show goodB b u e = false by rw [HG.out, HIF.out, decide_eq_false h1, Bool.false_and])
        go_enter Try.func113, Try.ntmps113
        go_wp2_with fail
        go_ret
        exact ⟨by rw [HD.out]; rfl, ((Below.refl _ _).alloc (Nat.le_refl _) _).alloc (by simp) _⟩
    · have t1 : (e.src == u) = false := by simp [hsrc]
      have HG := Lib.hid (show goodB b u e = false by unfold goodB; simp [hsrc])
      clear e1 hd hx hB hv hsrc
      go_enter Try.func113, Try.ntmps113
      go_wp2_with fail
      go_ret
      exact ⟨by rw [HG.out]; rfl, ((Below.refl _ _).alloc (Nat.le_refl _) _).alloc (by simp) _⟩
set_option maxRecDepth 100000 in
set_option maxHeartbeats 2000000 in
theorem indexFunc_any (A : Option Addr) (c : Nat) (l : List Edge) (hr : Right l) (g0 g1 g2 mb n : Nat) (b : Int → Option CK) (u : Int) (v : CK) (w : World) (hl : RdE w A l) (hB : Boxes w g0 g1 g2 mb n b u v) (hv : b u = some v)
    (hx : ∀ y x, b y = some x → x.1 ≤ 200000000 ∧ x.2 ≤ 200) (k0 : Nat) (hk0 : k0 < l.length) (hg : goodB b u (edAt l k0) = true) (hmin : ∀ i, i < k0 → goodB b u (edAt l i) = false) :
    Calls Try.prog 112 #[.slice A l.length c, .func (.func 113) #[] #[.pointer (some ⟨g0, 0, none⟩), .pointer (some ⟨g1, 0, none⟩), .pointer (some ⟨g2, 0, none⟩)]] w fun e w' => e = .returned (.int .i64 (k0 : Int)) ∧ Below w.heap.size w w' := by
  have hm := hl.1
  have HL := Lib.hid hl
  have HGD := Lib.hid (fun W (h : Below w.heap.size w W) (k : Nat) (hk : k < l.length) => good_any (edAt l k) g0 g1 g2 mb n b u v W (hB.below h) hv (fun x hd => hx _ x hd) (hr.ok _ (edAt_mem hk)).2.2.2.2.1 (hr.ok _ (edAt_mem hk)).2.2.2.2.2)
  have HG := Lib.hid hg
  have HM := Lib.hid hmin
  clear hl hB hv hx hg hmin hr
  go_enter Try.func112, Try.ntmps112
  go_wp2_with fail
  go_loopw [8] (fun i wr => ∃ k : Nat, k ≤ k0 ∧ i = .int .i64 k ∧ Hid (Below w.heap.size w wr)) (fun i _ => l.length - (intOf i).toNat)
  case atStart => exact ⟨0, Nat.zero_le _, rfl, Below.refl _ _⟩
  case round =>
    obtain ⟨k, hk, rfl, HB⟩ := hrel
    have i1 : ((k : Int) < (l.length : Int)) := by omega
    obtain ⟨a, rfl⟩ := HL.out.addr hk0
    obtain ⟨c0, c1, c2, c3⟩ := HL.out.at_ HB.out (show k < l.length by omega)
    have HC := HGD.out wr HB.out k (by omega)
    unfold edV at HC
    have HC' := Lib.hid HC
    clear HC
    go_wp2_with fail
    refine HC'.out.mono ?_
    rintro e w1 ⟨rfl, hb⟩
    have HB1 := Lib.hid (below_in HB.out hb HB.out.size)
    clear hb HC'
    by_cases he : k = k0
    · subst he
      rw [HG.out]
      go_wp2_with fail
      go_ret
      exact ⟨rfl, HB1.out⟩
    · rw [HM.out k (by omega)]
      go_wp2_with fail
      go_roundw
      case rel => exact ⟨k + 1, by omega, by go_num, HB1.out⟩
      case measure => simp [intOf]; omega
end Go.Proofs.Ytoeiongnjogpeaa
