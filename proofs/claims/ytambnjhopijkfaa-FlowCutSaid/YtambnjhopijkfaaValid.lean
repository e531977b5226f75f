/- Proved here: Value and Valid of the package flow answer what they say. Condition: the slices read as edges and numbers. -/
import Derived.Test.YtambnjhopijkfaaSurplus
import Derived.Test.YtambnjhopijkfaaFlowDef
namespace Go.Proofs.Ytambnjhopijkfaa
open Go.RowKit
/-- flow.Value -/
theorem value_any (A F : Option Addr) (c d : Nat) (l : List Edge) (f : List Int) (s : Int) (w : World) (hl : RdE w A l) (hf : RdI w F f) (hlen : f.length = l.length) :
    Calls Try.prog 15 #[.slice A l.length c, .slice F f.length d, .int .i64 s] w fun e w' => e = .returned (.int .i64 (wrap64 (net l f s))) ∧ Below w.heap.size w w' := by
  have HS := Lib.hid (surplus_any A F c d l f w hl hf hlen)
  clear hl hf hlen
  go_enter Try.func15, Try.ntmps15
  go_wp2_with fail
  refine HS.out.mono ?_
  rintro e w1 ⟨n, rfl, hi, hb⟩
  have hlk := hi.lookup (P := Try.prog) Try.underlying41 Try.underlying3 (z := .int .i64 0) (by kernel_rfl) s
  rw [surpM_getD] at hlk
  have HB := Lib.hid hb
  clear hi hb
  go_wp2
  go_ret
  exact ⟨rfl, HB.out⟩
theorem surpM_some {l : List Edge} {f : List Int} {k : Int} {v : Value} (h : surpM l f k = some v) : v = .int .i64 (wrap64 (net l f k)) := by
  unfold surpM at h
  split at h
  · exact (Option.some.inj h).symm
  · cases h

set_option maxRecDepth 100000 in
set_option maxHeartbeats 4000000 in
/-- flow.Valid -/
theorem valid_any (A F : Option Addr) (c d : Nat) (l : List Edge) (f : List Int) (s t : Int) (w : World) (hl : RdE w A l) (hf : RdI w F f) (hr : Right l) :
    Calls Try.prog 14 #[.slice A l.length c, .slice F f.length d, .int .i64 s, .int .i64 t] w fun e w' => e = .returned (.bool (validB l f s t)) ∧ Below w.heap.size w w' := by
  have hm := hl.1
  have hm2 := hf.1
  have HR := Lib.hid hr
  have HL := Lib.hid hl
  have HF := Lib.hid hf
  clear hl hf hr
  by_cases hlen : f.length = l.length
  · have hlen' : (f.length == l.length) = true := by simp [hlen]
    have hlen2 : ((f.length : Int) != (l.length : Int)) = false := by simp [hlen]
    have HN := Lib.hid hlen
    clear hlen
    go_enter Try.func14, Try.ntmps14
    go_wp2
    go_loopw [20] (fun i wr => ∃ k : Nat, k ≤ l.length ∧ i = .int .i64 k ∧ Hid (∀ i, i < k → 0 ≤ numAt f i ∧ numAt f i ≤ (edAt l i).cost) ∧ Hid (Below w.heap.size w wr)) (fun i _ => l.length - (intOf i).toNat)
    case atStart => exact ⟨0, Nat.zero_le _, rfl, fun i h => by omega, Below.refl _ _⟩
    case round =>
      obtain ⟨k, hk, rfl, HO, HB⟩ := hrel
      by_cases hlt : k < l.length
      · have hff : k < f.length := by have := HN.out; omega
        obtain ⟨a, rfl⟩ := HL.out.addr hlt
        obtain ⟨b, rfl⟩ := HF.out.addr hff
        obtain ⟨c0, c1, c2, c3⟩ := HL.out.at_ HB.out hlt
        have i1 : ((k : Int) < (l.length : Int)) := by omega
        have i2 : ((k : Int) < (f.length : Int)) := by omega
        go_wp2
        obtain ⟨W, hW⟩ : ∃ W, W = wr.alloc (.cells #[.int .i64 (edAt l k).id, .int .i64 (edAt l k).src, .int .i64 (edAt l k).dst, .int .i64 (edAt l k).cost] 34) := ⟨_, rfl⟩
        rw [← hW]
        have hws : w.heap.size ≤ wr.heap.size := HB.out.size
        have b3 : W.cell? ⟨wr.heap.size, 3, none⟩ = some (.int .i64 (edAt l k).cost) := by rw [hW]; exact box_cell _ _ _ _ _ rfl
        have hB1 : Below w.heap.size w W := below_in HB.out (by rw [hW]; exact (box_below _ _)) (by omega)
        have d0 := HF.out.at_ hB1 hff
        have HB1 := Lib.hid hB1
        clear hW hB1 c0 c1 c2 c3
        have hcase : decide (numAt f k < 0) = true ∨ (decide (numAt f k < 0) = false ∧ decide ((edAt l k).cost < numAt f k) = true) ∨ (decide (numAt f k < 0) = false ∧ decide ((edAt l k).cost < numAt f k) = false) := by
          simp only [decide_eq_true_eq, decide_eq_false_iff_not]; omega
        rcases hcase with h1 | ⟨h1, h2⟩ | ⟨h1, h2⟩
        · have hno : ¬ IsFlow l f s t := fun h => by have := (h.cap k hlt).1; simp at h1; omega
          have HE := Lib.hid hno
          clear hno
          go_quiet (fail)
          go_wp2
          go_ret
          exact ⟨by rw [validB_false HE.out]; rfl, below_drewN HB1.out _⟩
        · have hno : ¬ IsFlow l f s t := fun h => by have := (h.cap k hlt).2; simp at h2; omega
          have HE := Lib.hid hno
          clear hno
          go_quiet (fail)
          go_wp2
          go_ret
          exact ⟨by rw [validB_false HE.out]; rfl, below_drewN HB1.out _⟩
        · have hyes : 0 ≤ numAt f k ∧ numAt f k ≤ (edAt l k).cost := by simp at h1 h2; omega
          have hnew : ∀ i, i < k + 1 → 0 ≤ numAt f i ∧ numAt f i ≤ (edAt l i).cost := fun i hi => by
            rcases Nat.lt_or_ge i k with h | h
            · exact HO.out i h
            · have : i = k := by omega
              subst this; exact hyes
          have HE := Lib.hid hnew
          clear hyes hnew
          go_quiet (fail)
          go_wp2
          go_roundw
          case rel => exact ⟨k + 1, by omega, by go_num, HE.out, below_drewN HB1.out _⟩
          case measure => simp [intOf]; omega
      · have hcap : ∀ i, i < l.length → 0 ≤ numAt f i ∧ numAt f i ≤ (edAt l i).cost := fun i hi => HO.out i (by omega)
        have HC := Lib.hid hcap
        clear hcap HO
        have HS := Lib.hid (surplus_any A F c d l f wr (HL.out.below HB.out) (HF.out.below HB.out) HN.out)
        go_wp2_with fail
        refine HS.out.mono ?_
        rintro e w1 ⟨n, rfl, hi, hb⟩
        clear HS
        obtain ⟨w2, hrng, hit, hb2, hsz2⟩ := hi.range (P := Try.prog) Try.underlying41
        have hlt1 := hi.lt
        have HB2 := Lib.hid (show Below w.heap.size w w2 from below_in (below_in HB.out hb HB.out.size) hb2 (by have := HB.out.size; omega))
        have HIT := Lib.hid hit
        have HZ := Lib.hid (show w.heap.size ≤ w1.heap.size ∧ w1.heap.size = w2.heap.size - 1 ∧ wr.heap.size < w1.heap.size from ⟨by have := HB.out.size; omega, by omega, hlt1⟩)
        clear hb hb2 hit hsz2 hi hlt1 HB hlt hk
        go_wp2
        go_loopg [] (n + 1) (fun g wq => ∃ D : List Int, g + D.length = n + 1 ∧ Hid (IMap.Iter wq w1.heap.size wr.heap.size n (surpM l f) D) ∧ Hid (∀ k ∈ D, k ≠ s → k ≠ t → wrap64 (net l f k) = 0) ∧ Hid (Below w.heap.size w wq))
        case atStart => exact ⟨[], by simp, HIT.out, by simp [Hid], HB2.out⟩
        case round =>
          clear HIT HB2
          obtain ⟨D, hg, HIT, HD, HB⟩ := hrel
          rcases HIT.out.next (P := Try.prog) with ⟨hall, hnx⟩ | ⟨x, v, w', hv, hxD, hlen, hnx, hit, hgr, hsz⟩
          · have hyes : IsFlow l f s t := by
              refine ⟨HN.out, HC.out, fun k h1 h2 => ?_⟩
              by_cases hk : isNode l k = true
              · rw [← net_wrap HR.out HC.out]
                exact HD.out k (hall k (by unfold surpM; rw [if_pos hk]; rfl)) h1 h2
              · exact net_none (by simpa using hk)
            have HE := Lib.hid hyes
            clear hyes hall
            go_wp2
            go_ret
            exact ⟨by rw [validB_true HE.out]; rfl, HB.out⟩
          · obtain rfl := surpM_some hv
            have hen := hit.entry (P := Try.prog) hv
            have HBN := Lib.hid (show Below w.heap.size w w' from HB.out.grown hgr (by have := HB.out.size; omega) (fun j hj => by cases hj; have := HZ.out; omega))
            have HIN := Lib.hid hit
            clear hit hgr hsz hv
            rcases side2 x s t (wrap64 (net l f x)) with ⟨h1, G⟩ | ⟨h1, h2, G⟩ | ⟨h1, h2, h3, G⟩ | ⟨h1, h2, h3, G⟩
            case inr.inr.inr =>
              go_wp2
              go_ret
              exact ⟨by rw [validB_false (fun h => G.out (fun a b => by rw [h.wrap HR.out, h.bal _ a b]))]; rfl, HBN.out⟩
            all_goals
              cases gk with
              | zero => exact absurd hg (by omega)
              | succ k1 =>
                go_wp2
                go_roundg k1
                case measure => omega
                case rel => exact ⟨D ++ [x], by simp; omega, HIN.out, fun k hk => by
                  rcases List.mem_append.1 hk with h | h
                  · exact HD.out k h
                  · simp at h; subst h; exact G.out, HBN.out⟩
  · have hlen' : (f.length == l.length) = false := by simp [hlen]
    have hno : ¬ IsFlow l f s t := fun h => hlen h.len
    have HE := Lib.hid hno
    clear hlen hno
    go_enter Try.func14, Try.ntmps14
    go_wp2
    go_ret
    exact ⟨by rw [validB_false HE.out]; rfl, Below.refl _ _⟩
end Go.Proofs.Ytambnjhopijkfaa
