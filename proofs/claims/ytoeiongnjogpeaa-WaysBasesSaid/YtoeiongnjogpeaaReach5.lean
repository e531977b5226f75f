/- Proved here: the reference function Reach of chapter 05. Condition: the slices read as edges and numbers. -/
import Derived.Test.YtoeiongnjogpeaaPut5
import Derived.Test.YtoeiongnjogpeaaPlainG
import Derived.Test.YtoeiongnjogpeaaGReach
import Derived.Test.YtoeiongnjogpeaaHas5
namespace Go.Proofs.Ytoeiongnjogpeaa
open Go.RowKit
structure RInv (l : List Edge) (from_ out : List Int) : Prop where
  sorted : out.Pairwise (· < ·)
  sub : ∀ x ∈ from_, x ∈ out
  sound : ∀ T : Int → Prop, (∀ y ∈ from_, T y) → (∀ e ∈ l, T e.src → T e.dst) → ∀ x ∈ out, T x
theorem sorted_nodup {l : List Int} (h : l.Pairwise (· < ·)) : l.Nodup := h.imp (fun {a b} hab e => by omega)
theorem RInv.len {l : List Edge} {from_ out : List Int} (h : RInv l from_ out) : out.length ≤ from_.length + l.length := by
  have := IMap.nodup_le (es := from_ ++ l.map (·.dst)) (sorted_nodup h.sorted) (h.sound (· ∈ from_ ++ l.map (·.dst)) (fun y hy => List.mem_append_left _ hy) (fun e he _ => List.mem_append_right _ (List.mem_map.2 ⟨e, he, rfl⟩)))
  simpa using this
theorem RInv.step {l : List Edge} {from_ out : List Int} (h : RInv l from_ out) {e : Edge} (he : e ∈ l) (hs : e.src ∈ out) : RInv l from_ (putL out e.dst) :=
  ⟨putL_sorted _ h.sorted, fun x hx => (putL_mem _ _ _).2 (.inr (h.sub x hx)), fun T h1 h2 x hx => by
    rcases (putL_mem _ _ _).1 hx with rfl | hx
    · exact h2 e he (h.sound T h1 h2 _ hs)
    · exact h.sound T h1 h2 x hx⟩
/-- What a pass over the first k edges has brought about. -/
structure PassR (l : List Edge) (from_ out out2 : List Int) (k : Nat) : Prop where
  inv : RInv l from_ out2
  le : out.length ≤ out2.length
  same : out2.length = out.length → out2 = out ∧ ∀ i, i < k → (edAt l i).src ∈ out → (edAt l i).dst ∈ out
theorem PassR.skip {l : List Edge} {from_ out out2 : List Int} {k : Nat} (h : PassR l from_ out out2 k) (hs : (edAt l k).src ∉ out2) : PassR l from_ out out2 (k + 1) :=
  ⟨h.inv, h.le, fun he => by
    obtain ⟨rfl, h2⟩ := h.same he
    refine ⟨rfl, fun i hi => ?_⟩
    rcases Nat.lt_or_ge i k with hk | hk
    · exact h2 i hk
    · have : i = k := by omega
      subst this
      exact fun hm => absurd hm hs⟩
theorem PassR.take {l : List Edge} {from_ out out2 : List Int} {k : Nat} (h : PassR l from_ out out2 k) (hk : k < l.length) (hs : (edAt l k).src ∈ out2) : PassR l from_ out (putL out2 (edAt l k).dst) (k + 1) := by
  have hl := putL_len out2 (edAt l k).dst
  refine ⟨h.inv.step (edAt_mem hk) hs, by have := h.le; omega, fun he => ?_⟩
  have hle := h.le
  obtain ⟨rfl, h2⟩ := h.same (by omega)
  obtain ⟨h3, h4⟩ := putL_same h.inv.sorted (by omega)
  refine ⟨h3, fun i hi => ?_⟩
  rcases Nat.lt_or_ge i k with hk | hk
  · exact h2 i hk
  · have : i = k := by omega
    subst this
    exact fun _ => h4
set_option maxRecDepth 100000 in
set_option maxHeartbeats 4000000 in
theorem rreach_any (A F : Option Addr) (c d : Nat) (l : List Edge) (from_ : List Int) (w : World) (hl : RdE w A l) (hf : RdI w F from_) (h200 : l.length ≤ 1000) (hfr : from_.length ≤ 10000) :
    Calls Try.prog 71 #[.slice A l.length c, .slice F from_.length d] w fun e w' => ∃ A' c' ss, e = .returned (.slice A' ss.length c') ∧ RdI w' A' ss ∧ RS5 l from_ ss ∧ Below w.heap.size w w' := by
  have hm := hl.1
  have hm2 := hf.1
  have HL := Lib.hid hl
  have HF := Lib.hid hf
  clear hl hf
  go_enter Try.func71, Try.ntmps71
  go_wp2_with fail
  go_loopw [5, 6] (fun ov i wr => ∃ (k : Nat) (A' : Option Addr) (c' : Nat) (out : List Int), k ≤ from_.length ∧ i = .int .i64 k ∧ ov = .slice A' out.length c' ∧ out.length ≤ k ∧ Hid (RdI wr A' out) ∧ Hid (out.Pairwise (· < ·) ∧ ∀ x, x ∈ out ↔ x ∈ from_.take k) ∧ Hid (Below w.heap.size w wr)) (fun _ i _ => from_.length - (intOf i).toNat)
  case atStart => exact ⟨0, none, 0, [], Nat.zero_le _, rfl, rfl, by simp, ⟨by simp, by simp⟩, ⟨by simp, by simp⟩, Below.refl _ _⟩
  case round =>
    obtain ⟨k, A1, c1, out, hk, rfl, rfl, hol, HO, HS, HB⟩ := hrel
    by_cases hlt : k < from_.length
    · obtain ⟨a, rfl⟩ := HF.out.addr hlt
      have c0 := HF.out.at_ HB.out hlt
      have i1 : ((k : Int) < (from_.length : Int)) := by omega
      have HP := Lib.hid (put_any A1 c1 out (numAt from_ k) wr HO.out (by omega))
      have HS2 := Lib.hid (show (putL out (numAt from_ k)).Pairwise (· < ·) ∧ ∀ x, x ∈ putL out (numAt from_ k) ↔ x ∈ from_.take (k + 1) from ⟨putL_sorted _ HS.out.1, fun x => by
        rw [putL_mem, take_num hlt, List.mem_append, HS.out.2 x]
        simp [or_comm]⟩)
      have hpl := (putL_len out (numAt from_ k)).2
      go_wp2_with fail
      refine HP.out.mono ?_
      rintro e w1 ⟨A2, c2, rfl, hr, hb⟩
      have HR := Lib.hid hr
      have HB2 := Lib.hid (below_in HB.out hb HB.out.size)
      clear hr hb HP
      go_wp2_with fail
      go_roundw
      case rel => exact ⟨k + 1, A2, c2, _, by omega, by go_num, rfl, by omega, HR.out, HS2.out, HB2.out⟩
      case measure => simp [intOf]; omega
    · have hkl : k = from_.length := by omega
      have i1 : ¬ ((k : Int) < (from_.length : Int)) := by omega
      have HI : Hid (RInv l from_ out) := ⟨HS.out.1, fun x hx => (HS.out.2 x).2 (by rw [List.take_of_length_le (by omega)]; exact hx), fun T h1 _ x hx => h1 x (by
        have := (HS.out.2 x).1 hx
        rwa [List.take_of_length_le (by omega)] at this)⟩
      clear HS
      go_wp2_with fail
      go_loopg [5, 7] (2 * (from_.length + l.length - out.length) + 1) (fun g ov wv wr => ∃ (A' : Option Addr) (c' : Nat) (out : List Int) (was : Int), ov = .slice A' out.length c' ∧ wv = .int .i64 was ∧ g = 2 * (from_.length + l.length - out.length) + (if was < (out.length : Int) then 1 else 0) ∧
        Hid (RdI wr A' out) ∧ Hid (RInv l from_ out) ∧ Hid (¬ was < (out.length : Int) → ∀ e ∈ l, e.src ∈ out → e.dst ∈ out) ∧ Hid (Below w.heap.size w wr))
      case atStart => exact ⟨A1, c1, out, -1, rfl, rfl, by rw [if_pos (by omega)], HO.out, HI.out, Lib.hid (fun h => absurd (show (-1 : Int) < (out.length : Int) by omega) h), HB.out⟩
      case round =>
        clear HO HI HB hol hkl hk hlt i1
        obtain ⟨A2, c2, out2, was, rfl, rfl, hg, HO, HI, HX, HB⟩ := hrel
        have hlen2 := HI.out.len
        by_cases hwas : was < (out2.length : Int)
        · rw [if_pos hwas] at hg
          have HG := Lib.hid hg
          clear hg HX
          go_wp2_with fail
          go_loopw [5, 8] (fun ov i wr => ∃ (k : Nat) (A' : Option Addr) (c' : Nat) (out3 : List Int), k ≤ l.length ∧ i = .int .i64 k ∧ ov = .slice A' out3.length c' ∧ Hid (RdI wr A' out3) ∧ Hid (PassR l from_ out2 out3 k) ∧ Hid (Below w.heap.size w wr)) (fun _ i _ => l.length - (intOf i).toNat)
          case atStart => exact ⟨0, A2, c2, out2, Nat.zero_le _, rfl, rfl, HO.out, ⟨HI.out, Nat.le_refl _, fun _ => ⟨rfl, fun i h => by omega⟩⟩, HB.out⟩
          case round =>
            clear HO HI HB
            obtain ⟨k, A3, c3, out3, hk, rfl, rfl, HO, HP, HB⟩ := hrel
            have hlen3 := HP.out.inv.len
            by_cases hlt : k < l.length
            · obtain ⟨a, rfl⟩ := HL.out.addr hlt
              obtain ⟨x0, x1, x2, x3⟩ := HL.out.at_ HB.out hlt
              have i1 : ((k : Int) < (l.length : Int)) := by omega
              have HH := Lib.hid (has_any A3 c3 out3 (edAt l k).src wr HO.out)
              go_wp2_with fail
              refine HH.out.mono ?_
              rintro e w1 ⟨rfl, rfl⟩
              by_cases hin : (edAt l k).src ∈ out3
              · rw [decide_eq_true hin]
                have HPT := Lib.hid (put_any A3 c3 out3 (edAt l k).dst wr HO.out (by omega))
                have HP2 := Lib.hid (HP.out.take hlt hin)
                clear hin HH
                go_wp2_with fail
                refine HPT.out.mono ?_
                rintro e w1 ⟨A4, c4, rfl, hr, hb⟩
                have HR := Lib.hid hr
                have HB2 := Lib.hid (below_in HB.out hb HB.out.size)
                clear hr hb HPT
                go_wp2_with fail
                go_roundw
                case rel => exact ⟨k + 1, A4, c4, _, by omega, by go_num, rfl, HR.out, HP2.out, HB2.out⟩
                case measure => simp [intOf]; omega
              · rw [decide_eq_false hin]
                have HP2 := Lib.hid (HP.out.skip hin)
                clear hin HH
                go_wp2_with fail
                go_roundw
                case rel => exact ⟨k + 1, A3, c3, _, by omega, by go_num, rfl, HO.out, HP2.out, HB.out⟩
                case measure => simp [intOf]; omega
            · have hkl : k = l.length := by omega
              have i1 : ¬ ((k : Int) < (l.length : Int)) := by omega
              have HX := Lib.hid (show ¬ ((out2.length : Int) < (out3.length : Int)) → ∀ e ∈ l, e.src ∈ out3 → e.dst ∈ out3 from fun hn e he => by
                have hle := HP.out.le
                obtain ⟨rfl, h2⟩ := HP.out.same (by omega)
                obtain ⟨j, hj, rfl⟩ := mem_edAt he
                exact h2 j (by omega))
              have hle := HP.out.le
              have hgl : 2 * (from_.length + l.length - out3.length) + (if (out2.length : Int) < (out3.length : Int) then 1 else 0) < 2 * (from_.length + l.length - out2.length) + 1 := by
                split <;> omega
              have HGL := Lib.hid hgl
              clear hgl
              go_wp2_with fail
              go_roundg (2 * (from_.length + l.length - out3.length) + (if (out2.length : Int) < (out3.length : Int) then 1 else 0))
              case measure =>
                have h1 := HG.out
                have h2 := HGL.out
                omega
              case rel => exact ⟨A3, c3, out3, (out2.length : Int), rfl, rfl, rfl, HO.out, HP.out.inv, HX.out, HB.out⟩
        · have HR : Hid (RS5 l from_ out2) := ⟨HI.out.sorted, HI.out.sub, HX.out hwas, HI.out.sound⟩
          clear hg HX
          go_wp2_with fail
          go_ret
          exact ⟨A2, c2, out2, rfl, HO.out, HR.out, HB.out⟩
end Go.Proofs.Ytoeiongnjogpeaa
