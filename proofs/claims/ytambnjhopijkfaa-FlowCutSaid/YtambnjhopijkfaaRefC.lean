/- Proved here: few, edges and the reference function Valid answer what they say. Condition: the slices read as edges and numbers, the edges are accepted. -/
import Derived.Test.YtambnjhopijkfaaFlowDef
namespace Go.Proofs.Ytambnjhopijkfaa
open Go.RowKit
noncomputable def fewB (l : List Edge) : Bool := decide (l.length ≤ 60) && rightB l
theorem few_any (A : Option Addr) (c : Nat) (l : List Edge) (w : World) (hl : RdE w A l) :
    Calls Try.prog 12 #[.slice A l.length c] w fun e w' => e = .returned (.bool (fewB l)) ∧ Below w.heap.size w w' := by
  have hm := hl.1
  have HC := Lib.hid (right_any A c l w hl)
  clear hl
  by_cases hs : l.length ≤ 60
  · have hfin : fewB l = rightB l := by unfold fewB; simp [hs]
    rw [hfin]
    clear hfin
    go_enter Try.func12, Try.ntmps12
    go_wp2_with (go_at_call 24; refine HC.out.mono ?_; rintro e w' ⟨rfl, hb⟩)
    go_ret
    exact ⟨rfl, hb⟩
  · have hfin : fewB l = false := by unfold fewB; simp [hs]
    rw [hfin]
    clear hfin
    go_enter Try.func12, Try.ntmps12
    go_wp2
    go_ret
    exact ⟨rfl, Below.refl _ _⟩
def sample : List Edge := [⟨1, 1, 2, 3⟩, ⟨2, 1, 3, 2⟩, ⟨3, 2, 3, 2⟩, ⟨4, 2, 4, 1⟩, ⟨5, 3, 4, 5⟩]
theorem edges_any (w : World) :
    Calls Try.prog 27 #[] w fun e w' => e = .returned (.slice (some ⟨w.heap.size, 0, none⟩) 5 5) ∧ Below w.heap.size w w' ∧ RdE w' (some ⟨w.heap.size, 0, none⟩) sample ∧ w'.heap.size = w.heap.size + 1 := by
  go_enter Try.func27, Try.ntmps27
  go_wp2
  go_ret
  refine ⟨rfl, (Below.refl _ _).alloc (Nat.le_refl _) _, ⟨by decide, fun i hi => ⟨_, rfl, ?_⟩⟩, by simp⟩
  have h5 : i = 0 ∨ i = 1 ∨ i = 2 ∨ i = 3 ∨ i = 4 := by simp [sample] at hi; omega
  rcases h5 with rfl | rfl | rfl | rfl | rfl <;> refine ⟨box_cell _ _ _ _ _ rfl, box_cell _ _ _ _ _ rfl, box_cell _ _ _ _ _ rfl, box_cell _ _ _ _ _ rfl⟩

set_option maxRecDepth 100000 in
set_option maxHeartbeats 4000000 in
/-- ref06.Valid -/
theorem rvalid_any (A F : Option Addr) (c d : Nat) (l : List Edge) (f : List Int) (s t : Int) (w : World) (hl : RdE w A l) (hf : RdI w F f) (hr : Right l) :
    Calls Try.prog 13 #[.slice A l.length c, .slice F f.length d, .int .i64 s, .int .i64 t] w fun e w' => e = .returned (.bool (validB l f s t)) ∧ Below w.heap.size w w' := by
  have hm := hl.1
  have hm2 := hf.1
  have HR := Lib.hid hr
  have HL := Lib.hid hl
  have HF := Lib.hid hf
  clear hl hf hr
  by_cases hlen : f.length = l.length
  · have hlen' : (f.length == l.length) = true := by simp [hlen]
    have hlen2 : ((f.length : Int) != (l.length : Int)) = false := by simp [hlen]
    have HN := Lib.hid hlen
    clear hlen
    go_enter Try.func13, Try.ntmps13
    go_wp2
    go_loopw [9] (fun i wr => ∃ k : Nat, k ≤ l.length ∧ i = .int .i64 k ∧ Hid (∀ i, i < k → 0 ≤ numAt f i ∧ numAt f i ≤ (edAt l i).cost) ∧ Hid (Below w.heap.size w wr)) (fun i _ => l.length - (intOf i).toNat)
    case atStart => exact ⟨0, Nat.zero_le _, rfl, fun i h => by omega, Below.refl _ _⟩
    case round =>
      obtain ⟨k, hk, rfl, HO, HB⟩ := hrel
      by_cases hlt : k < l.length
      · have hff : k < f.length := by have := HN.out; omega
        obtain ⟨a, rfl⟩ := HL.out.addr hlt
        obtain ⟨b, rfl⟩ := HF.out.addr hff
        obtain ⟨c0, c1, c2, c3⟩ := HL.out.at_ HB.out hlt
        have d0 := HF.out.at_ HB.out hff
        have i1 : ((k : Int) < (l.length : Int)) := by omega
        have i2 : ((k : Int) < (f.length : Int)) := by omega
        have hcase : decide (numAt f k < 0) = true ∨ (decide (numAt f k < 0) = false ∧ decide ((edAt l k).cost < numAt f k) = true) ∨ (decide (numAt f k < 0) = false ∧ decide ((edAt l k).cost < numAt f k) = false) := by
          simp only [decide_eq_true_eq, decide_eq_false_iff_not]; omega
        rcases hcase with h1 | ⟨h1, h2⟩ | ⟨h1, h2⟩
        · have hno : ¬ IsFlow l f s t := fun h => by have := (h.cap k hlt).1; simp at h1; omega
          have HE := Lib.hid hno
          clear hno
          go_wp2
          go_quiet (fail)
          go_wp2
          go_ret
          exact ⟨by rw [validB_false HE.out]; rfl, below_drewN HB.out _⟩
        · have hno : ¬ IsFlow l f s t := fun h => by have := (h.cap k hlt).2; simp at h2; omega
          have HE := Lib.hid hno
          clear hno
          go_wp2
          go_quiet (fail)
          go_wp2
          go_ret
          exact ⟨by rw [validB_false HE.out]; rfl, below_drewN HB.out _⟩
        · have hyes : 0 ≤ numAt f k ∧ numAt f k ≤ (edAt l k).cost := by simp at h1 h2; omega
          have HE := Lib.hid hyes
          clear hyes
          go_wp2
          go_quiet (fail)
          go_wp2
          go_roundw
          case rel => exact ⟨k + 1, by omega, by go_num, fun i hi => by
            rcases Nat.lt_or_ge i k with h | h
            · exact HO.out i h
            · have : i = k := by omega
              subst this; exact HE.out, below_drewN HB.out _⟩
          case measure => simp [intOf]; omega
      · have hcap : ∀ i, i < l.length → 0 ≤ numAt f i ∧ numAt f i ≤ (edAt l i).cost := fun i hi => HO.out i (by omega)
        have HC := Lib.hid hcap
        clear hcap HO
        go_wp2
        go_loopw [10] (fun i wr => ∃ k : Nat, k ≤ l.length ∧ i = .int .i64 k ∧ Hid (∀ i, i < k → ((edAt l i).src ≠ s → (edAt l i).src ≠ t → wrap64 (net l f (edAt l i).src) = 0) ∧ ((edAt l i).dst ≠ s → (edAt l i).dst ≠ t → wrap64 (net l f (edAt l i).dst) = 0)) ∧ Hid (Below w.heap.size w wr)) (fun i _ => l.length - (intOf i).toNat)
        case atStart => exact ⟨0, Nat.zero_le _, rfl, fun i h => by omega, HB.out⟩
        case round =>
          clear HB hlt hk
          obtain ⟨q, hq, rfl, HO, HB⟩ := hrel
          by_cases hlt : q < l.length
          · have hff : q < f.length := by have := HN.out; omega
            obtain ⟨a, rfl⟩ := HL.out.addr hlt
            obtain ⟨b, rfl⟩ := HF.out.addr hff
            obtain ⟨c0, c1, c2, c3⟩ := HL.out.at_ HB.out hlt
            have HT := Lib.hid (fun n => net_any (some a) (some b) c d l f n wr (HL.out.below HB.out) (HF.out.below HB.out) HN.out)
            rcases side (edAt l q).src s t (wrap64 (net l f (edAt l q).src)) with ⟨h1, G1⟩ | ⟨h1, h2, G1⟩ | ⟨h1, h2, h3, G1⟩ | ⟨h1, h2, h3, G1⟩
            case inr.inr.inr =>
              go_wp2_with (go_at_call 28; refine (HT.out _).mono ?_; rintro e w' ⟨rfl, rfl⟩)
              go_ret
              exact ⟨by rw [validB_false (fun h => G1.out (fun x y => by rw [h.wrap HR.out, h.bal _ x y]))]; rfl, HB.out⟩
            all_goals
              rcases side (edAt l q).dst s t (wrap64 (net l f (edAt l q).dst)) with ⟨h4, G2⟩ | ⟨h4, h5, G2⟩ | ⟨h4, h5, h6, G2⟩ | ⟨h4, h5, h6, G2⟩
              case inr.inr.inr =>
                go_wp2_with (go_at_call 28; refine (HT.out _).mono ?_; rintro e w' ⟨rfl, rfl⟩)
                go_ret
                exact ⟨by rw [validB_false (fun h => G2.out (fun x y => by rw [h.wrap HR.out, h.bal _ x y]))]; rfl, HB.out⟩
              all_goals
                have hnew : ∀ i, i < q + 1 → ((edAt l i).src ≠ s → (edAt l i).src ≠ t → wrap64 (net l f (edAt l i).src) = 0) ∧ ((edAt l i).dst ≠ s → (edAt l i).dst ≠ t → wrap64 (net l f (edAt l i).dst) = 0) := fun i hi => by
                  rcases Nat.lt_or_ge i q with h | h
                  · exact HO.out i h
                  · have : i = q := by omega
                    subst this; exact ⟨G1.out, G2.out⟩
                have HNEW := Lib.hid hnew
                clear hnew
                go_wp2_with (go_at_call 28; refine (HT.out _).mono ?_; rintro e w' ⟨rfl, rfl⟩)
                go_roundw
                case rel => first | exact ⟨q + 1, by omega, by go_num, HNEW.out, HB.out⟩ | ((repeat apply Exists.intro); exact ⟨⟨q + 1, by omega, by go_num, HNEW.out, HB.out⟩, rfl⟩)
                case measure => simp [intOf]; omega
          · have hyes : IsFlow l f s t := by
              refine ⟨HN.out, HC.out, fun k h1 h2 => ?_⟩
              by_cases hk : isNode l k = true
              · unfold isNode at hk
                rw [List.any_eq_true] at hk
                obtain ⟨e, he, hek⟩ := hk
                obtain ⟨i, hi, rfl⟩ := mem_edAt he
                have := HO.out i (by omega)
                rw [← net_wrap HR.out HC.out]
                simp at hek
                rcases hek with rfl | rfl
                · exact this.1 h1 h2
                · exact this.2 h1 h2
              · exact net_none (by simpa using hk)
            have HE := Lib.hid hyes
            clear hyes
            go_wp2
            go_ret
            exact ⟨by rw [validB_true HE.out]; rfl, HB.out⟩
  · have hlen' : (f.length == l.length) = false := by simp [hlen]
    have hno : ¬ IsFlow l f s t := fun h => hlen h.len
    have HE := Lib.hid hno
    clear hlen hno
    go_enter Try.func13, Try.ntmps13
    go_wp2
    go_ret
    exact ⟨by rw [validB_false HE.out]; rfl, Below.refl _ _⟩
end Go.Proofs.Ytambnjhopijkfaa
