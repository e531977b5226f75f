/- Proved here: the reference functions net, Value and Right answer what they say. Condition: the slices read as edges and numbers. -/
import Derived.Test.YtambnjhopijkfaaRefA
namespace Go.Proofs.Ytambnjhopijkfaa
open Go.RowKit

/-- ref06.net -/
theorem net_any (A F : Option Addr) (c d : Nat) (l : List Edge) (f : List Int) (n : Int) (w : World) (hl : RdE w A l) (hf : RdI w F f) (hlen : f.length = l.length) :
    Calls Try.prog 28 #[.slice A l.length c, .slice F f.length d, .int .i64 n] w fun e w' => e = .returned (.int .i64 (wrap64 (net l f n))) ∧ w = w' := by
  have hm := hl.1
  have HL := Lib.hid hl
  have HF := Lib.hid hf
  have HN := Lib.hid hlen
  clear hl hf hlen
  go_enter Try.func28, Try.ntmps28
  go_wp2
  go_loop [7, 8] (fun s i => ∃ k : Nat, k ≤ l.length ∧ i = .int .i64 k ∧ s = .int .i64 (wrap64 (net (l.take k) (f.take k) n))) (fun _ i => l.length - (intOf i).toNat)
  case atStart => exact ⟨0, Nat.zero_le _, rfl, by simp [net, wrap64]⟩
  case round =>
    obtain ⟨k, hk, rfl, rfl⟩ := hrel
    by_cases hlt : k < l.length
    · have hff : k < f.length := by have := HN.out; omega
      obtain ⟨a, rfl⟩ := HL.out.addr hlt
      obtain ⟨b, rfl⟩ := HF.out.addr hff
      obtain ⟨c0, c1, c2, c3⟩ := HL.out.at_ (Below.refl _ _) hlt
      have d0 := HF.out.at_ (Below.refl _ _) hff
      have hs := net_append (edAt l k) (numAt f k) n (l.take k) (f.take k) (by rw [List.length_take, List.length_take]; have := HN.out; omega)
      rw [← take_ed hlt, ← take_num hff] at hs
      have HS := Lib.hid hs
      clear hs
      by_cases h1 : (edAt l k).src = n
      · have h1' : ((edAt l k).src == n) = true := by simp [h1]
        have H1 := Lib.hid h1
        clear h1
        by_cases h2 : (edAt l k).dst = n
        · have h2' : ((edAt l k).dst == n) = true := by simp [h2]
          have H2 := Lib.hid h2
          clear h2
          go_wp2
          go_round
          case rel => exact ⟨k + 1, by omega, by go_num, by rw [HS.out, if_pos H1.out, if_pos H2.out]; congr 1; unfold wrap64; omega⟩
          case measure => simp [intOf]; omega
        · have h2' : ((edAt l k).dst == n) = false := by simp [h2]
          have H2 := Lib.hid h2
          clear h2
          go_wp2
          go_round
          case rel => exact ⟨k + 1, by omega, by go_num, by rw [HS.out, if_pos H1.out, if_neg H2.out]; congr 1; unfold wrap64; omega⟩
          case measure => simp [intOf]; omega
      · have h1' : ((edAt l k).src == n) = false := by simp [h1]
        have H1 := Lib.hid h1
        clear h1
        by_cases h2 : (edAt l k).dst = n
        · have h2' : ((edAt l k).dst == n) = true := by simp [h2]
          have H2 := Lib.hid h2
          clear h2
          go_wp2
          go_round
          case rel => exact ⟨k + 1, by omega, by go_num, by rw [HS.out, if_neg H1.out, if_pos H2.out]; congr 1; unfold wrap64; omega⟩
          case measure => simp [intOf]; omega
        · have h2' : ((edAt l k).dst == n) = false := by simp [h2]
          have H2 := Lib.hid h2
          clear h2
          go_wp2
          go_round
          case rel => exact ⟨k + 1, by omega, by go_num, by rw [HS.out, if_neg H1.out, if_neg H2.out]; congr 1; unfold wrap64; omega⟩
          case measure => simp [intOf]; omega
    · have hkl : k = l.length := by omega
      subst hkl
      have e1 : l.take l.length = l := List.take_of_length_le (Nat.le_refl _)
      have e2 : f.take l.length = f := List.take_of_length_le (by have := HN.out; omega)
      rw [e1, e2]
      clear e1 e2
      go_wp2
      go_ret
      exact ⟨rfl, rfl⟩

/-- ref06.Value -/
theorem rvalue_any (A F : Option Addr) (c d : Nat) (l : List Edge) (f : List Int) (n : Int) (w : World) (hl : RdE w A l) (hf : RdI w F f) (hlen : f.length = l.length) :
    Calls Try.prog 16 #[.slice A l.length c, .slice F f.length d, .int .i64 n] w fun e w' => e = .returned (.int .i64 (wrap64 (net l f n))) ∧ w = w' := by
  have H := Lib.hid (net_any A F c d l f n w hl hf hlen)
  clear hl hf hlen
  go_enter Try.func16, Try.ntmps16
  go_wp2_with fail
  refine (H.out).mono ?_
  rintro e w' ⟨rfl, rfl⟩
  go_wp2
  go_ret
  exact ⟨rfl, rfl⟩

def EdgeOk (e : Edge) : Prop := 0 ≤ e.src ∧ e.src ≤ 9999 ∧ 0 ≤ e.dst ∧ e.dst ≤ 9999 ∧ 0 ≤ e.cost ∧ e.cost ≤ 1000000
/-- The edges are accepted. -/
structure Right (l : List Edge) : Prop where
  len : l.length ≤ 200
  ok : ∀ e ∈ l, EdgeOk e
  ids : ∀ i j, i < j → j < l.length → (edAt l i).id ≠ (edAt l j).id
noncomputable def rightB (l : List Edge) : Bool := @decide (Right l) (Classical.propDecidable _)
theorem rightB_true {l : List Edge} (h : Right l) : rightB l = true := by unfold rightB; simp [h]
theorem rightB_false {l : List Edge} (h : ¬ Right l) : rightB l = false := by unfold rightB; simp [h]
theorem rightB_iff {l : List Edge} : rightB l = true ↔ Right l := by unfold rightB; simp
theorem edAt_mem {l : List Edge} {k : Nat} (h : k < l.length) : edAt l k ∈ l := List.mem_of_getElem? (edAt_eq h)
theorem mem_edAt {l : List Edge} {e : Edge} (h : e ∈ l) : ∃ k, k < l.length ∧ edAt l k = e := by
  obtain ⟨k, hk, he⟩ := List.mem_iff_getElem.1 h
  refine ⟨k, hk, ?_⟩
  have := edAt_eq hk
  rw [List.getElem?_eq_getElem hk, he] at this
  exact (Option.some.inj this).symm

set_option maxHeartbeats 1000000 in
/-- ref06.Right -/
theorem right_any (A : Option Addr) (c : Nat) (l : List Edge) (w : World) (hl : RdE w A l) :
    Calls Try.prog 24 #[.slice A l.length c] w fun e w' => e = .returned (.bool (rightB l)) ∧ Below w.heap.size w w' := by
  have hm := hl.1
  have HL := Lib.hid hl
  clear hl
  by_cases hbig : l.length ≤ 200
  · go_enter Try.func24, Try.ntmps24
    go_wp2
    go_loopw [3] (fun i wr => ∃ k : Nat, k ≤ l.length ∧ i = .int .i64 k ∧ Hid (∀ i, i < k → EdgeOk (edAt l i)) ∧ Hid (∀ i j, i < j → j < k → (edAt l i).id ≠ (edAt l j).id) ∧ Hid (Below w.heap.size w wr)) (fun i _ => l.length - (intOf i).toNat)
    case atStart => exact ⟨0, Nat.zero_le _, rfl, fun i h => by omega, fun i j h1 h2 => by omega, Below.refl _ _⟩
    case round =>
      obtain ⟨k, hk, rfl, HO, HI, HB⟩ := hrel
      by_cases hlt : k < l.length
      · obtain ⟨a, rfl⟩ := HL.out.addr hlt
        obtain ⟨c0, c1, c2, c3⟩ := HL.out.at_ HB.out hlt
        by_cases hok : EdgeOk (edAt l k)
        · have HK := Lib.hid hok
          obtain ⟨o1, o2, o3, o4, o5, o6⟩ := hok
          go_wp2
          go_loopw [4] (fun j wq => ∃ q : Nat, q ≤ k ∧ j = .int .i64 q ∧ Hid (∀ i, i < q → (edAt l i).id ≠ (edAt l k).id) ∧ Hid (Below w.heap.size w wq)) (fun j _ => k - (intOf j).toNat)
          case atStart => exact ⟨0, Nat.zero_le _, rfl, fun i h => by omega, HB.out⟩
          case round =>
            obtain ⟨q, hq, rfl, HJ, HC⟩ := hrel
            by_cases hqlt : q < k
            · have hql : q < l.length := by omega
              clear c0 c1 c2 c3
              obtain ⟨c0, _, _, _⟩ := HL.out.at_ HC.out hlt
              obtain ⟨d0, _, _, _⟩ := HL.out.at_ HC.out hql
              have i1 : ((k : Int) < (l.length : Int)) := by omega
              have i2 : ((q : Int) < (l.length : Int)) := by omega
              by_cases he : (edAt l q).id = (edAt l k).id
              · have he' : ((edAt l q).id == (edAt l k).id) = true := by simp [he]
                have hno : ¬ Right l := fun hr => hr.ids q k hqlt hlt he
                have HE := Lib.hid hno
                clear he hno
                go_wp2
                go_quiet (fail)
                go_wp2
                go_ret
                exact ⟨by rw [rightB_false HE.out]; rfl, below_drewN HC.out _⟩
              · have he' : ((edAt l q).id == (edAt l k).id) = false := by simp [he]
                have HE := Lib.hid he
                clear he
                go_wp2
                go_quiet (fail)
                go_wp2
                go_roundw
                case rel => exact ⟨q + 1, by omega, by go_num, fun i hi => by
                  rcases Nat.lt_or_ge i q with h | h
                  · exact HJ.out i h
                  · have : i = q := by omega
                    subst this; exact HE.out, below_drewN HC.out _⟩
                case measure => simp [intOf]; omega
            · go_wp2
              go_roundw
              case rel => exact ⟨k + 1, by omega, by go_num, fun i hi => by
                  rcases Nat.lt_or_ge i k with h | h
                  · exact HO.out i h
                  · have : i = k := by omega
                    subst this; exact HK.out, fun i j h1 h2 => by
                  rcases Nat.lt_or_ge j k with h | h
                  · exact HI.out i j h1 h
                  · have : j = k := by omega
                    subst this; exact HJ.out i (by omega), HC.out⟩
              case measure => simp [intOf]; omega
        · have hno : ¬ Right l := fun hr => hok (hr.ok _ (edAt_mem hlt))
          have HE := Lib.hid hno
          have hcase : (edAt l k).src < 0 ∨ (0 ≤ (edAt l k).src ∧ 9999 < (edAt l k).src) ∨ (0 ≤ (edAt l k).src ∧ (edAt l k).src ≤ 9999 ∧ (edAt l k).dst < 0) ∨ (0 ≤ (edAt l k).src ∧ (edAt l k).src ≤ 9999 ∧ 0 ≤ (edAt l k).dst ∧ 9999 < (edAt l k).dst) ∨
              (0 ≤ (edAt l k).src ∧ (edAt l k).src ≤ 9999 ∧ 0 ≤ (edAt l k).dst ∧ (edAt l k).dst ≤ 9999 ∧ (edAt l k).cost < 0) ∨ (0 ≤ (edAt l k).src ∧ (edAt l k).src ≤ 9999 ∧ 0 ≤ (edAt l k).dst ∧ (edAt l k).dst ≤ 9999 ∧ 0 ≤ (edAt l k).cost ∧ 1000000 < (edAt l k).cost) := by
            unfold EdgeOk at hok; omega
          clear hok hno
          rcases hcase with o1 | ⟨o1, o2⟩ | ⟨o1, o2, o3⟩ | ⟨o1, o2, o3, o4⟩ | ⟨o1, o2, o3, o4, o5⟩ | ⟨o1, o2, o3, o4, o5, o6⟩
          all_goals
            go_wp2
            go_ret
            exact ⟨by rw [rightB_false HE.out]; rfl, HB.out⟩
      · have hr : Right l := ⟨hbig, fun e he => by
            obtain ⟨i, hi, rfl⟩ := mem_edAt he
            exact HO.out i (by omega), fun i j h1 h2 => HI.out i j h1 (by omega)⟩
        have HE := Lib.hid hr
        clear hr
        go_wp2
        go_ret
        exact ⟨by rw [rightB_true HE.out]; rfl, HB.out⟩
  · have hno : ¬ Right l := fun hr => hbig hr.len
    have HE := Lib.hid hno
    clear hno
    go_enter Try.func24, Try.ntmps24
    go_wp2
    go_ret
    exact ⟨by rw [rightB_false HE.out]; rfl, Below.refl _ _⟩
end Go.Proofs.Ytambnjhopijkfaa
