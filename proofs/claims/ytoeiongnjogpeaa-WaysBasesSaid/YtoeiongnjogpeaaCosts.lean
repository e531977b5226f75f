/- Proved here: the function costs of the package graph. Condition: the slice reads as accepted edges. -/
import Derived.Test.YtoeiongnjogpeaaLess
import Derived.Test.YtoeiongnjogpeaaPlainG
import Derived.Test.YtoeiongnjogpeaaGReach
namespace Go.Proofs.Ytoeiongnjogpeaa
open Go.RowKit
def costM (b : Int → Option CK) : Int → Option Value := fun u => (b u).map ckV
theorem costM_upd (b : Int → Option CK) (u : Int) (v : CK) (x : Int) : IMap.upd (costM b) u (some (ckV v)) x = costM (updC b u v) x := by
  unfold IMap.upd costM updC
  split <;> rfl
structure CInv (l : List Edge) (t : Int) (w wr : World) (b : Int → Option CK) : Prop where
  im : ∃ n, IMap.IM wr w.heap.size n (costM b)
  lab : Lab l t b
  below : Below w.heap.size w wr
/-- What a pass over the first k edges has brought about. -/
def Pass (l : List Edge) (b b' : Int → Option CK) (k : Nat) (ch : Bool) : Prop :=
  (ch = false → b' = b ∧ ∀ i, i < k → Relaxed b (edAt l i)) ∧ (ch = true → phiC l b' < phiC l b)
theorem Pass.start (l : List Edge) (b : Int → Option CK) : Pass l b b 0 false := ⟨fun _ => ⟨rfl, fun i h => by omega⟩, fun h => by cases h⟩
theorem Pass.skip {l : List Edge} {b b' : Int → Option CK} {k : Nat} {ch : Bool} (h : Pass l b b' k ch) (hr : Relaxed b' (edAt l k)) : Pass l b b' (k + 1) ch := by
  refine ⟨fun hc => ?_, h.2⟩
  obtain ⟨rfl, h2⟩ := h.1 hc
  refine ⟨rfl, fun i hi => ?_⟩
  rcases Nat.lt_or_ge i k with hk | hk
  · exact h2 i hk
  · have : i = k := by omega
    subst this; exact hr
theorem Pass.take {l : List Edge} {b b' b'' : Int → Option CK} {k : Nat} {ch : Bool} (h : Pass l b b' k ch) (hp : phiC l b'' < phiC l b') : Pass l b b'' (k + 1) true := by
  refine ⟨fun hc => by (cases hc), fun _ => ?_⟩
  cases ch with
  | false => obtain ⟨rfl, _⟩ := h.1 rfl; exact hp
  | true => have := h.2 rfl; omega
set_option maxRecDepth 100000 in
set_option maxHeartbeats 2000000 in
theorem costs_any (A : Option Addr) (c : Nat) (l : List Edge) (t : Int) (w : World) (hl : RdE w A l) (hr : Right l) :
    Calls Try.prog 111 #[.slice A l.length c, .int .i64 t] w fun e w' => ∃ b n, e = .returned (.map (some w.heap.size)) ∧ IMap.IM w' w.heap.size n (costM b) ∧ Lab l t b ∧ Best l t b ∧ Below w.heap.size w w' := by
  have hm := hl.1
  have HL := Lib.hid hl
  have HR := Lib.hid hr
  have h200 := hr.len
  clear hl hr
  have hmm := @run_makeMap Try.prog
  go_enter Try.func111, Try.ntmps111
  go_wp2_with (first
    | ((with_reducible refine IMap.gate_insert ?_)
       refine IMap.wp_insert _ rfl _ _ _ 123 rfl 3 126 Try.underlying123 Try.underlying3 w.heap.size 0 _ rfl (IMap.IM.made w) t (ckV (0, 0)) rfl rfl ?_
       intro w1 hi1 hg1
       have HI1 := Lib.hid hi1
       have HB1 := Lib.hid (((Below.refl w.heap.size w).alloc (Nat.le_refl _) (.map #[] 0)).grown hg1 (by simp) (fun j hj => by cases hj; exact Nat.le_refl _))
       clear hi1 hg1 hmm))
  go_loopg [6] (2 * phiC l (fun x => if x = t then some (0, 0) else none) + 1) (fun g cv wr => ∃ (b : Int → Option CK) (ch : Bool), cv = .bool ch ∧ g = 2 * phiC l b + (if ch then 1 else 0) ∧ Hid (CInv l t w wr b) ∧ Hid (ch = false → ∀ e ∈ l, Relaxed b e))
  case atStart => exact ⟨_, true, rfl, rfl, ⟨⟨_, HI1.out.congr (fun x => by unfold IMap.upd costM; dsimp only; split <;> rfl)⟩, Lab.start l t, HB1.out⟩, Lib.hid (fun h => by cases h)⟩
  case round =>
    clear HI1 HB1
    obtain ⟨b, ch, rfl, hg, HI, HX⟩ := hrel
    cases ch with
    | false =>
      go_wp2_with fail
      go_ret
      obtain ⟨n, hn⟩ := HI.out.im
      exact ⟨rfl, b, ⟨n, hn⟩, HI.out.lab, HI.out.lab.best (by first | exact HX.out rfl | exact HX.out | exact HX.out trivial), HI.out.below⟩
    | true =>
      go_wp2_with fail
      go_loopw [6, 20] (fun cv i wr => ∃ (k : Nat) (b' : Int → Option CK) (ch : Bool), k ≤ l.length ∧ i = .int .i64 k ∧ cv = .bool ch ∧ Hid (CInv l t w wr b') ∧ Hid (Pass l b b' k ch)) (fun _ i _ => l.length - (intOf i).toNat)
      case atStart => exact ⟨0, b, false, Nat.zero_le _, rfl, rfl, HI.out, Pass.start l b⟩
      case round =>
        clear HI HX
        obtain ⟨k, b', ch, hk, rfl, rfl, HI, HP⟩ := hrel
        by_cases hlt : k < l.length
        · have i1 : ((k : Int) < (l.length : Int)) := by omega
          obtain ⟨a, rfl⟩ := HL.out.addr hlt
          obtain ⟨c0, c1, c2, c3⟩ := HL.out.at_ HI.out.below hlt
          obtain ⟨n, hn⟩ := HI.out.im
          obtain ⟨W0, hW0⟩ : ∃ W0, W0 = wr.alloc (.cells #[.int .i64 (edAt l k).id, .int .i64 (edAt l k).src, .int .i64 (edAt l k).dst, .int .i64 (edAt l k).cost] 94) := ⟨_, rfl⟩
          have hn0 : IMap.IM W0 w.heap.size n (costM b') := by rw [hW0]; exact hn.alloc _
          have hlk1 : (Instr.lookup 123 (.map (some w.heap.size)) (.int .i64 (edAt l k).dst) true).run Try.prog W0 = .ok (.tuple #[(costM b' (edAt l k).dst).getD (ckV (0, 0)), .bool (costM b' (edAt l k).dst).isSome]) W0 := hn0.lookup_ok Try.underlying123 Try.underlying3 (by kernel_rfl) _
          rw [hW0] at hlk1
          cases hd : b' (edAt l k).dst with
          | none =>
            have e1 : costM b' (edAt l k).dst = none := by unfold costM; rw [hd]; rfl
            rw [e1] at hlk1
            simp only [Option.getD_none, Option.isSome_none] at hlk1
            unfold ckV at hlk1
            have HI0 : Hid (CInv l t w ((wr.alloc (.cells #[.int .i64 (edAt l k).id, .int .i64 (edAt l k).src, .int .i64 (edAt l k).dst, .int .i64 (edAt l k).cost] 94)).alloc (.cells #[.int .i64 0, .int .i64 0] 126)) b') := ⟨⟨n, (hn.alloc _).alloc _⟩, HI.out.lab, (HI.out.below.alloc HI.out.below.size _).alloc (by have := HI.out.below.size; simp; omega) _⟩
            have HP0 := Lib.hid (HP.out.skip (fun v hv => by rw [hd] at hv; cases hv))
            clear hn hn0 e1 hd HI HP hW0
            go_wp2_with fail
            go_roundw
            case rel => exact ⟨k + 1, b', ch, by omega, by go_num, rfl, HI0.out, HP0.out⟩
            case measure => simp [intOf]; omega
          | some v =>
            have e1 : costM b' (edAt l k).dst = some (ckV v) := by unfold costM; rw [hd]; rfl
            rw [e1] at hlk1
            simp only [Option.getD_some, Option.isSome_some] at hlk1
            unfold ckV at hlk1
            have hle := HI.out.lab.le HR.out hd
            have hek := HR.out.ok _ (edAt_mem hlt)
            unfold EdgeOk at hek
            have hck : ckV (addC (edAt l k) v) = .agg #[.int .i64 ((v.1 : Int) + (edAt l k).cost), .int .i64 ((v.2 : Int) + 1)] := by
              have h1 : (((v.1 + (edAt l k).cost.toNat : Nat)) : Int) = (v.1 : Int) + (edAt l k).cost := by omega
              unfold ckV addC
              dsimp only
              rw [h1]
              rfl
            obtain ⟨W1, hW1⟩ : ∃ W1, W1 = (wr.alloc (.cells #[.int .i64 (edAt l k).id, .int .i64 (edAt l k).src, .int .i64 (edAt l k).dst, .int .i64 (edAt l k).cost] 94)).alloc (.cells #[.int .i64 ((v.1 : Int) + (edAt l k).cost), .int .i64 ((v.2 : Int) + 1)] 126) := ⟨_, rfl⟩
            have hn1 : IMap.IM W1 w.heap.size n (costM b') := by rw [hW1]; exact (hn.alloc _).alloc _
            have hB1 : Below w.heap.size w W1 := by rw [hW1]; exact (HI.out.below.alloc HI.out.below.size _).alloc (by have := HI.out.below.size; simp; omega) _
            have hz1 : W1.heap.size = wr.heap.size + 2 := by rw [hW1]; simp
            have y1 : W1.cell? ⟨wr.heap.size, 1, none⟩ = some (.int .i64 (edAt l k).src) := by
              rw [hW1, World.cell?_alloc_some _ _ _ (by rw [box_cell _ _ _ _ _ rfl]; rfl)]
              exact box_cell _ _ _ _ _ rfl
            have y2 : W1.cell? ⟨wr.heap.size + 1, 0, none⟩ = some (.int .i64 ((v.1 : Int) + (edAt l k).cost)) := by
              have := box_cell (wr.alloc (.cells #[.int .i64 (edAt l k).id, .int .i64 (edAt l k).src, .int .i64 (edAt l k).dst, .int .i64 (edAt l k).cost] 94)) #[.int .i64 ((v.1 : Int) + (edAt l k).cost), .int .i64 ((v.2 : Int) + 1)] 126 0 _ rfl
              rw [← hW1] at this
              simpa using this
            have y3 : W1.cell? ⟨wr.heap.size + 1, 1, none⟩ = some (.int .i64 ((v.2 : Int) + 1)) := by
              have := box_cell (wr.alloc (.cells #[.int .i64 (edAt l k).id, .int .i64 (edAt l k).src, .int .i64 (edAt l k).dst, .int .i64 (edAt l k).cost] 94)) #[.int .i64 ((v.1 : Int) + (edAt l k).cost), .int .i64 ((v.2 : Int) + 1)] 126 1 _ rfl
              rw [← hW1] at this
              simpa using this
            have hlk2 : (Instr.lookup 123 (.map (some w.heap.size)) (.int .i64 (edAt l k).src) true).run Try.prog W1 = .ok (.tuple #[(costM b' (edAt l k).src).getD (ckV (0, 0)), .bool (costM b' (edAt l k).src).isSome]) W1 := hn1.lookup_ok Try.underlying123 Try.underlying3 (by kernel_rfl) _
            cases hs : b' (edAt l k).src with
            | none =>
              have e2 : costM b' (edAt l k).src = none := by unfold costM; rw [hs]; rfl
              rw [e2] at hlk2
              simp only [Option.getD_none, Option.isSome_none] at hlk2
              unfold ckV at hlk2
              rw [hW1] at hlk2
              have HN1 : Hid (IMap.IM (((wr.alloc (.cells #[.int .i64 (edAt l k).id, .int .i64 (edAt l k).src, .int .i64 (edAt l k).dst, .int .i64 (edAt l k).cost] 94)).alloc (.cells #[.int .i64 ((v.1 : Int) + (edAt l k).cost), .int .i64 ((v.2 : Int) + 1)] 126)).alloc (.cells #[.int .i64 0, .int .i64 0] 126)) w.heap.size n (costM b')) := by rw [← hW1]; exact hn1.alloc _
              have HB1 : Hid (Below w.heap.size w (((wr.alloc (.cells #[.int .i64 (edAt l k).id, .int .i64 (edAt l k).src, .int .i64 (edAt l k).dst, .int .i64 (edAt l k).cost] 94)).alloc (.cells #[.int .i64 ((v.1 : Int) + (edAt l k).cost), .int .i64 ((v.2 : Int) + 1)] 126)).alloc (.cells #[.int .i64 0, .int .i64 0] 126))) := by rw [← hW1]; exact hB1.alloc hB1.size _
              have HCK := Lib.hid hck
              have HLS := Lib.hid (HI.out.lab.step (edAt_mem hlt) hd (fun x hx => by rw [hs] at hx; cases hx))
              have HP1 := Lib.hid (HP.out.take (phi_step HR.out HI.out.lab (edAt_mem hlt) hd (fun x hx => by rw [hs] at hx; cases hx)))
              clear hn hn0 e1 e2 hd hs HI HP hW0 hn1 hB1 hz1 y1 y2 y3 hck hW1 hg
              go_wp2_with (at_mapUpdate; refine wp_update' _ rfl _ _ _ 123 rfl 3 126 Try.underlying123 Try.underlying3 w.heap.size n _ rfl HN1.out (edAt l k).src _ rfl rfl ?_)
              intro W3 n3 hi3 hg3
              have HI3 : Hid (CInv l t w W3 (updC b' (edAt l k).src (addC (edAt l k) v))) := ⟨⟨n3, hi3.congr (fun x => by rw [← costM_upd, HCK.out])⟩, HLS.out, HB1.out.grown hg3 HB1.out.size (fun j hj => by cases hj; exact Nat.le_refl _)⟩
              clear hi3 hg3 HN1 HB1 hlk1 hlk2
              go_wp2_with fail
              go_roundw
              case rel => exact ⟨k + 1, _, true, by omega, by go_num, rfl, HI3.out, HP1.out⟩
              case measure => simp [intOf]; omega
            | some old =>
              have e2 : costM b' (edAt l k).src = some (ckV old) := by unfold costM; rw [hs]; rfl
              rw [e2] at hlk2
              simp only [Option.getD_some, Option.isSome_some] at hlk2
              unfold ckV at hlk2
              rw [hW1] at hlk2
              have hLC := less_any (addC (edAt l k) v) old (W1.alloc (.cells #[.int .i64 (old.1 : Int), .int .i64 (old.2 : Int)] 126))
              rw [hck, hW1] at hLC
              unfold ckV at hLC
              have HLC := Lib.hid hLC
              have HCK := Lib.hid hck
              have HY1 := Lib.hid y1
              have HY2 := Lib.hid y2
              have HY3 := Lib.hid y3
              have HN1 := Lib.hid hn1
              have HB1 := Lib.hid hB1
              have HZ1 := Lib.hid hz1
              have HW1 := Lib.hid hW1
              have HD := Lib.hid hd
              have HS := Lib.hid hs
              clear hn hn0 e1 e2 hd hs hW0 hn1 hB1 hz1 y1 y2 y3 hck hW1 hg hLC
              go_wp2_with fail
              refine HLC.out.mono ?_
              rintro e w2 ⟨rfl, hb2⟩
              have hbb : Below W1.heap.size W1 w2 := by
                rw [← HW1.out] at hb2
                exact below_in (box_below W1 _) hb2 (by simp)
              have hcell : ∀ (p : Addr) (u : Value), W1.cell? p = some u → w2.cell? p = some u := fun p u h => (hbb.cell (World.block_lt_of_cell? W1 p h)).trans h
              have q1 := hcell _ _ HY1.out
              have q2 := hcell _ _ HY2.out
              have q3 := hcell _ _ HY3.out
              have HN2 := Lib.hid (HN1.out.below hbb HN1.out.lt)
              have HB2 := Lib.hid (below_in HB1.out hbb HB1.out.size)
              clear hbb hcell hb2 HLC HN1 HB1 HY1 HY2 HY3 hlk1 hlk2 c0 c1 c2 c3
              by_cases hcmp : ltC (addC (edAt l k) v) old
              · rw [decide_eq_true hcmp]
                have hlt' : ∀ x, b' (edAt l k).src = some x → ltC (addC (edAt l k) v) x := fun x hx => by
                  rw [HS.out] at hx; cases hx; exact hcmp
                have HLS := Lib.hid (HI.out.lab.step (edAt_mem hlt) HD.out hlt')
                have HP1 := Lib.hid (HP.out.take (phi_step HR.out HI.out.lab (edAt_mem hlt) HD.out hlt'))
                clear hcmp hlt' HP HI HW1
                go_wp2_with (at_mapUpdate; refine wp_update' _ rfl _ _ _ 123 rfl 3 126 Try.underlying123 Try.underlying3 w.heap.size n _ rfl HN2.out (edAt l k).src _ rfl rfl ?_)
                intro W3 n3 hi3 hg3
                have HI3 : Hid (CInv l t w W3 (updC b' (edAt l k).src (addC (edAt l k) v))) := ⟨⟨n3, hi3.congr (fun x => by rw [← costM_upd, HCK.out])⟩, HLS.out, HB2.out.grown hg3 HB2.out.size (fun j hj => by cases hj; exact Nat.le_refl _)⟩
                clear hi3 hg3 HN2 HB2
                go_wp2_with fail
                go_roundw
                case rel => exact ⟨k + 1, _, true, by omega, by go_num, rfl, HI3.out, HP1.out⟩
                case measure => simp [intOf]; omega
              · rw [decide_eq_false hcmp]
                have HP1 := Lib.hid (HP.out.skip (fun x hx => by
                  rw [HD.out] at hx; cases hx
                  exact ⟨old, HS.out, hcmp⟩))
                have HI3 : Hid (CInv l t w w2 b') := ⟨⟨n, HN2.out⟩, HI.out.lab, HB2.out⟩
                clear hcmp HP HI HW1 HN2 HB2
                go_wp2_with fail
                go_roundw
                case rel => exact ⟨k + 1, _, ch, by omega, by go_num, rfl, HI3.out, HP1.out⟩
                case measure => simp [intOf]; omega
        · have hkl : k = l.length := by omega
          subst hkl
          have i1 : ¬ ((l.length : Int) < (l.length : Int)) := by omega
          have HX2 := Lib.hid (show ch = false → ∀ e ∈ l, Relaxed b' e from fun hc e he => by
            obtain ⟨rfl, h2⟩ := HP.out.1 hc
            obtain ⟨j, hj, rfl⟩ := mem_edAt he
            exact h2 j hj)
          have hphi : 2 * phiC l b' + (if ch = true then 1 else 0) < 2 * phiC l b + 1 := by
            cases ch with
            | false =>
              obtain ⟨rfl, _⟩ := HP.out.1 rfl
              simp
            | true =>
              have := HP.out.2 rfl
              simp; omega
          have HPHI := Lib.hid hphi
          have HG := Lib.hid hg
          clear hg hphi
          go_wp2_with fail
          go_roundg (2 * phiC l b' + (if ch = true then 1 else 0))
          case measure =>
            have h1 := HG.out
            have h2 := HPHI.out
            simp only [if_true] at h1
            omega
          case rel => exact ⟨b', ch, rfl, rfl, HI.out, HX2.out⟩
end Go.Proofs.Ytoeiongnjogpeaa
