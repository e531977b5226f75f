/- Proved here: the functions turned and Back of the package graph. Condition: the slices read as edges and numbers. -/
import Derived.Test.YtoeiongnjogpeaaCloneE
import Derived.Test.YtoeiongnjogpeaaGReach
import Derived.BigRegion
namespace Go.Proofs.Ytoeiongnjogpeaa
open Go.RowKit
set_option maxRecDepth 100000 in
set_option maxHeartbeats 4000000 in
theorem turned_any (A : Option Addr) (c : Nat) (l : List Edge) (w : World) (hl : RdE w A l) (hlen : l.length ≤ 1000) :
    Calls Try.prog 92 #[.slice A l.length c] w fun e w' => ∃ v, e = .returned v ∧ OwnS 94 4 w' w.heap.size v l.length ((l.map turnE).flatMap edgeCells) ∧ Below w.heap.size w w' := by
  have hm := hl.1
  have HC := Lib.hid (clonee_any A c l w hl hlen)
  clear hl
  go_enter Try.func92, Try.ntmps92
  go_wp2_with fail
  refine HC.out.mono ?_
  rintro e w1 ⟨v, rfl, ho, hb⟩
  obtain ⟨A1, c1, rfl, _, _⟩ := ho.slice
  have HO := Lib.hid ho
  have HB := Lib.hid hb
  clear ho hb HC
  go_wp2_with fail
  go_loopw [9] (fun i wr => ∃ k : Nat, k ≤ l.length ∧ i = .int .i64 k ∧ Hid (OwnS 94 4 wr w.heap.size (.slice A1 l.length c1) l.length ((mixT l k).flatMap edgeCells)) ∧ Hid (Below w.heap.size w wr)) (fun i _ => l.length - (intOf i).toNat)
  case atStart => exact ⟨0, Nat.zero_le _, rfl, by rw [mixT_zero]; exact HO.out, HB.out⟩
  case round =>
    clear HO HB
    obtain ⟨k, hk, rfl, HO, HB⟩ := hrel
    by_cases hlt : k < l.length
    · have i1 : ((k : Int) < (l.length : Int)) := by omega
      have hlm : k < (mixT l k).length := by rw [mixT_len]; exact hlt
      have f1 := flat_at (mixT l k) k 1 hlm (by omega)
      have f2 := flat_at (mixT l k) k 2 hlm (by omega)
      rw [mixT_at hlt] at f1 f2
      obtain ⟨g, o, rfl, h1, z1⟩ := HO.out.cell (u := .int .i64 (edAt l k).src) (by rw [f1]; rfl)
      obtain ⟨g', o', e', h2, z2⟩ := HO.out.cell (u := .int .i64 (edAt l k).dst) (by rw [f2]; rfl)
      simp only [Option.some.injEq, Addr.mk.injEq, and_true] at e'
      obtain ⟨rfl, rfl⟩ := e'
      clear f1 f2
      have hg : w.heap.size ≤ g := (HO.out.block (k := g) rfl).1
      have HG := Lib.hid hg
      clear hg
      go_wp2_with fail
      obtain ⟨wq, hwq⟩ : ∃ wq, wq = wr := ⟨_, rfl⟩
      rw [← hwq] at h1 z1 h2 z2 HO HB ⊢
      rw [← Nat.add_assoc] at h1 z1 h2 z2
      clear hwq
      go_region
      go_wp2_with fail
      go_roundw
      case measure => simp [intOf]; omega
      case rel =>
        obtain ⟨s1, b1⟩ := HO.out.store (k * 4 + 1) (.int .i64 (edAt l k).dst)
        obtain ⟨s2, b2⟩ := s1.store (k * 4 + 2) (.int .i64 (edAt l k).src)
        rw [flat_set _ _ _ hlm (mixT_at hlt), mixT_succ hlt] at s2
        rw [← Nat.add_assoc] at s1 b1
        rw [← Nat.add_assoc, ← Nat.add_assoc] at s2
        rw [← Nat.add_assoc, ← Nat.add_assoc] at b2
        exact ⟨k + 1, by omega, by go_num, s2.drew, ((HB.out.grown b1 HB.out.size (fun j hj => by cases hj; exact HG.out)).grown b2 (by have := HB.out.size; have := b1.size; omega) (fun j hj => by cases hj; exact HG.out)).drew⟩
    · have hkl : k = l.length := by omega
      subst hkl
      rw [mixT_all] at HO
      have i1 : ¬ ((l.length : Int) < (l.length : Int)) := by omega
      go_wp2_with fail
      go_ret
      exact ⟨_, rfl, HO.out, HB.out⟩
set_option maxRecDepth 100000 in
set_option maxHeartbeats 4000000 in
theorem gback_any (A F : Option Addr) (c d : Nat) (l : List Edge) (to_ : List Int) (w : World) (hl : RdE w A l) (hf : RdI w F to_) (h200 : l.length ≤ 1000) (hfr : to_.length ≤ 10000)
    (hrf : ∀ x ∈ to_, -9223372036854775808 ≤ x ∧ x ≤ 9223372036854775807) (hrd : ∀ e ∈ l, -9223372036854775808 ≤ e.src ∧ e.src ≤ 9223372036854775807) :
    Calls Try.prog 50 #[.slice A l.length c, .slice F to_.length d] w fun e w' => ∃ v ss, e = .returned v ∧ OwnS 3 1 w' w.heap.size v ss.length (ss.map (Value.int .i64)) ∧ RS5 (l.map turnE) to_ ss ∧ Below w.heap.size w w' := by
  have hm := hl.1
  have HT := Lib.hid (turned_any A c l w hl h200)
  have HF := Lib.hid hf
  have HRF := Lib.hid hrf
  have HRD := Lib.hid hrd
  clear hl hf hrf hrd
  go_enter Try.func50, Try.ntmps50
  go_wp2_with fail
  refine HT.out.mono ?_
  rintro e w1 ⟨v, rfl, ho, hb⟩
  obtain ⟨A1, c1, rfl, _, _⟩ := ho.slice
  have hlen : (l.map turnE).length = l.length := List.length_map _
  have hR := greach_any A1 F c1 d (l.map turnE) to_ w1 (by
    rw [← hlen] at ho
    exact ho.rdE (by omega)) (HF.out.below hb) (by omega) hfr HRF.out (fun e he => by
      obtain ⟨x, hx, rfl⟩ := List.mem_map.1 he
      exact HRD.out x hx)
  rw [hlen] at hR
  have HR := Lib.hid hR
  have HB := Lib.hid hb
  clear hR hb ho HT HF HRF HRD hlen
  go_wp2_with fail
  refine HR.out.mono ?_
  rintro e w2 ⟨v, ss, rfl, ho, hs, hb2⟩
  have HO := Lib.hid (ho.mono HB.out.size)
  have HS := Lib.hid hs
  have HB2 := Lib.hid (below_in HB.out hb2 HB.out.size)
  obtain ⟨A3, c3, rfl, _, _⟩ := ho.slice
  clear ho hs hb2 HR HB
  go_wp2_with fail
  go_ret
  exact ⟨_, ss, rfl, HO.out, HS.out, HB2.out⟩
end Go.Proofs.Ytoeiongnjogpeaa
