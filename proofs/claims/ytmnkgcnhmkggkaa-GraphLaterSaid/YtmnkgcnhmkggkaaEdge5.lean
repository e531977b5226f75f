/- Proved here: the law's function edge finds an edge by its number. Condition: the slice reads as edges. -/
import Derived.Test.YtmnkgcnhmkggkaaTurnTh
namespace Go.Proofs.Ytmnkgcnhmkggkaa
open Go.RowKit
def findE (l : List Edge) (i : Int) : Option Edge := l.find? (fun e => decide (e.id = i))
def edgeR (l : List Edge) (i : Int) : Value := match findE l i with
  | none => .tuple #[.agg #[.int .i64 0, .int .i64 0, .int .i64 0, .int .i64 0], .bool false]
  | some e => .tuple #[.agg #[.int .i64 e.id, .int .i64 e.src, .int .i64 e.dst, .int .i64 e.cost], .bool true]
theorem find_at {l : List Edge} {p : Edge → Bool} {k : Nat} (hk : k < l.length) (hp : p (edAt l k) = true) (hno : ∀ i, i < k → p (edAt l i) = false) : l.find? p = some (edAt l k) := by
  cases hf : l.find? p with
  | none =>
    rw [List.find?_eq_none] at hf
    exact absurd hp (hf _ (edAt_mem hk))
  | some e =>
    obtain ⟨j, hj, he, hpe, hmin⟩ := find_idx hf
    rcases Nat.lt_trichotomy j k with h | h | h
    · have := hno j h
      rw [he, hpe] at this; cases this
    · rw [← he, h]
    · have := hmin k h
      rw [hp] at this; cases this
theorem find_no {l : List Edge} {p : Edge → Bool} (hno : ∀ i, i < l.length → p (edAt l i) = false) : l.find? p = none := by
  rw [List.find?_eq_none]
  intro e he
  obtain ⟨j, hj, rfl⟩ := mem_edAt he
  rw [hno j hj]; simp
set_option maxRecDepth 100000 in
set_option maxHeartbeats 4000000 in
theorem edge_any (A : Option Addr) (c : Nat) (l : List Edge) (i : Int) (w : World) (hl : RdE w A l) :
    Calls Try.prog 45 #[.slice A l.length c, .int .i64 i] w fun e w' => e = .returned (edgeR l i) ∧ Below w.heap.size w w' := by
  have hm := hl.1
  have HL := Lib.hid hl
  clear hl
  go_enter Try.func45, Try.ntmps45
  go_wp2_with fail
  have HB0 := Lib.hid (box_below w (.cells #[.int .i64 0, .int .i64 0, .int .i64 0, .int .i64 0] 42))
  go_loop [6] (fun v => ∃ k : Nat, k ≤ l.length ∧ v = .int .i64 k ∧ Hid (∀ j, j < k → decide ((edAt l j).id = i) = false)) (fun v => l.length - (intOf v).toNat)
  case atStart => exact ⟨0, Nat.zero_le _, rfl, fun j h => by omega⟩
  case round =>
    obtain ⟨k, hk, rfl, HI⟩ := hrel
    by_cases hlt : k < l.length
    · have i1 : ((k : Int) < (l.length : Int)) := by omega
      obtain ⟨a, rfl⟩ := HL.out.addr hlt
      obtain ⟨x0, x1, x2, x3⟩ := HL.out.at_ HB0.out hlt
      by_cases he : (edAt l k).id = i
      · have he' : ((edAt l k).id == i) = true := by simp [he]
        have HE := Lib.hid (show edgeR l i = .tuple #[.agg #[.int .i64 (edAt l k).id, .int .i64 (edAt l k).src, .int .i64 (edAt l k).dst, .int .i64 (edAt l k).cost], .bool true] by
          unfold edgeR findE
          rw [find_at hlt (decide_eq_true he) HI.out])
        clear he
        go_wp2_with fail
        refine bodyPost_ret (v := .tuple #[.agg #[.int .i64 (edAt l k).id, .int .i64 (edAt l k).src, .int .i64 (edAt l k).dst, .int .i64 (edAt l k).cost], .bool true]) (by simp [results, go_sem]) rfl ⟨by rw [HE.out], box_below _ _⟩
      · have he' : ((edAt l k).id == i) = false := by simp [he]
        have HN := Lib.hid (show ∀ j, j < k + 1 → decide ((edAt l j).id = i) = false from fun j hj => by
          rcases Nat.lt_or_ge j k with h | h
          · exact HI.out j h
          · have : j = k := by omega
            subst this
            exact decide_eq_false he)
        clear he
        go_wp2_with fail
        go_round
        case rel => exact ⟨k + 1, by omega, by go_num, HN.out⟩
        case measure => simp [intOf]; omega
    · have HE := Lib.hid (show edgeR l i = .tuple #[.agg #[.int .i64 0, .int .i64 0, .int .i64 0, .int .i64 0], .bool false] by
        unfold edgeR findE
        rw [find_no (fun j hj => HI.out j (by omega))])
      have i1 : ¬ ((k : Int) < (l.length : Int)) := by omega
      go_wp2_with fail
      refine bodyPost_ret (v := .tuple #[.agg #[.int .i64 0, .int .i64 0, .int .i64 0, .int .i64 0], .bool false]) (by simp [results, go_sem]) rfl ⟨by rw [HE.out], box_below _ _⟩
end Go.Proofs.Ytmnkgcnhmkggkaa
