/- Proved here: the reference functions Nodes and free of chapter 05. Condition: the slices read as edges and numbers. -/
import Derived.Test.YtoeiongnjogpeaaTurned5
import Derived.Test.YtoeiongnjogpeaaPlainG
namespace Go.Proofs.Ytoeiongnjogpeaa
open Go.RowKit
def nodesS (l : List Edge) : List Int := l.foldl (fun out e => putL (putL out e.src) e.dst) []
theorem nodesS_take {l : List Edge} {k : Nat} (h : k < l.length) : nodesS (l.take (k + 1)) = putL (putL (nodesS (l.take k)) (edAt l k).src) (edAt l k).dst := by
  unfold nodesS; rw [take_ed h, List.foldl_append]; rfl
theorem nodesS_fold (l : List Edge) : ∀ (out : List Int), out.Pairwise (· < ·) → (l.foldl (fun out e => putL (putL out e.src) e.dst) out).Pairwise (· < ·) ∧
    (∀ x, x ∈ l.foldl (fun out e => putL (putL out e.src) e.dst) out ↔ x ∈ out ∨ x ∈ nodesL l) ∧ (l.foldl (fun out e => putL (putL out e.src) e.dst) out).length ≤ out.length + 2 * l.length := by
  induction l with
  | nil => intro out h; exact ⟨h, fun x => by simp [nodesL], by simp⟩
  | cons e l ih =>
    intro out h
    obtain ⟨a, b, c⟩ := ih (putL (putL out e.src) e.dst) (putL_sorted _ (putL_sorted _ h))
    refine ⟨a, fun x => ?_, ?_⟩
    · rw [List.foldl_cons, b x, putL_mem, putL_mem]
      have : nodesL (e :: l) = [e.src, e.dst] ++ nodesL l := rfl
      rw [this, List.mem_append]
      simp only [List.mem_cons, List.not_mem_nil, or_false]
      constructor
      · rintro ((h | h | h) | h)
        · exact .inr (.inl (.inr h))
        · exact .inr (.inl (.inl h))
        · exact .inl h
        · exact .inr (.inr h)
      · rintro (h | (h | h) | h)
        · exact .inl (.inr (.inr h))
        · exact .inl (.inr (.inl h))
        · exact .inl (.inl h)
        · exact .inr h
    · have h1 := (putL_len out e.src).2
      have h2 := (putL_len (putL out e.src) e.dst).2
      rw [List.foldl_cons]
      simp only [List.length_cons]
      omega
theorem nodesS_sorted (l : List Edge) : (nodesS l).Pairwise (· < ·) := (nodesS_fold l [] List.Pairwise.nil).1
theorem nodesS_mem (l : List Edge) (x : Int) : x ∈ nodesS l ↔ x ∈ nodesL l := by
  have := (nodesS_fold l [] List.Pairwise.nil).2.1 x
  unfold nodesS
  rw [this]; simp
theorem nodesS_len (l : List Edge) : (nodesS l).length ≤ 2 * l.length := by
  have := (nodesS_fold l [] List.Pairwise.nil).2.2
  unfold nodesS; simpa using this
set_option maxRecDepth 100000 in
set_option maxHeartbeats 4000000 in
theorem nodes_any (A : Option Addr) (c : Nat) (l : List Edge) (w : World) (hl : RdE w A l) (h200 : l.length ≤ 1000) :
    Calls Try.prog 127 #[.slice A l.length c] w fun e w' => ∃ A' c', e = .returned (.slice A' (nodesS l).length c') ∧ RdI w' A' (nodesS l) ∧ Below w.heap.size w w' := by
  have hm := hl.1
  have HL := Lib.hid hl
  clear hl
  go_enter Try.func127, Try.ntmps127
  go_wp2_with fail
  go_loopw [3, 4] (fun ov i wr => ∃ (k : Nat) (A' : Option Addr) (c' : Nat), k ≤ l.length ∧ i = .int .i64 k ∧ ov = .slice A' (nodesS (l.take k)).length c' ∧ Hid (RdI wr A' (nodesS (l.take k))) ∧ Hid (Below w.heap.size w wr)) (fun _ i _ => l.length - (intOf i).toNat)
  case atStart => exact ⟨0, none, 0, Nat.zero_le _, rfl, rfl, ⟨by simp [nodesS], by simp [nodesS]⟩, Below.refl _ _⟩
  case round =>
    obtain ⟨k, A1, c1, hk, rfl, rfl, HO, HB⟩ := hrel
    by_cases hlt : k < l.length
    · have i1 : ((k : Int) < (l.length : Int)) := by omega
      obtain ⟨a, rfl⟩ := HL.out.addr hlt
      have hlen := nodesS_len (l.take k)
      rw [List.length_take] at hlen
      have hlen2 := (putL_len (nodesS (l.take k)) (edAt l k).src).2
      have HP1 := Lib.hid (fun (W : World) (h : Below wr.heap.size wr W) => put_any A1 c1 (nodesS (l.take k)) (edAt l k).src W (HO.out.below h) (by omega))
      have HP2 := Lib.hid (fun (A' : Option Addr) (c' : Nat) (W : World) (h : RdI W A' (putL (nodesS (l.take k)) (edAt l k).src)) => put_any A' c' _ (edAt l k).dst W h (by omega))
      have HE := Lib.hid (fun (W : World) (h : Below wr.heap.size wr W) => HL.out.at_ (HB.out.trans (h.mono HB.out.size)) hlt)
      have hb0 : Hid (Below wr.heap.size wr wr) := Below.refl _ _
      have hb1 : Hid (Below wr.heap.size wr wr.drew) := (Below.refl _ _).drew
      have HT := Lib.hid (nodesS_take hlt)
      obtain ⟨xs, hxs⟩ : ∃ xs, xs = nodesS (l.take k) := ⟨_, rfl⟩
      rw [← hxs] at HO HP1 HP2 HT ⊢
      clear hlen hlen2 hxs
      go_wp2_with fail
      go_region_held3 (fun W : World => W.cell? (a.add (k * 4)) = some (.int .i64 (edAt l k).id) ∧
          W.cell? ⟨(a.add (k * 4)).block, (a.add (k * 4)).off + 1, none⟩ = some (.int .i64 (edAt l k).src) ∧
          W.cell? ⟨(a.add (k * 4)).block, (a.add (k * 4)).off + 2, none⟩ = some (.int .i64 (edAt l k).dst) ∧
          W.cell? ⟨(a.add (k * 4)).block, (a.add (k * 4)).off + 3, none⟩ = some (.int .i64 (edAt l k).cost)) (first | exact HE.out _ hb0.out | exact HE.out _ hb1.out | exact HE.out _ HBC.out | exact HE.out _ HBB.out)
        (first
          | (go_at_call_of 106 (Value.slice A1 xs.length c1); refine (HP1.out _ (by first | exact hb0.out | exact hb1.out)).mono ?_; rintro e w2 ⟨A2, c2, rfl, hr2, hb2⟩; have HR2 := Lib.hid hr2; have HBB := Lib.hid (show Below wr.heap.size wr w2 from by first | exact hb2 | exact below_in hb1.out hb2 hb1.out.size); clear hr2 hb2)
          | (go_at_call 106; refine (HP2.out A2 c2 _ HR2.out).mono ?_; rintro e w3 ⟨A3, c3, rfl, hr3, hb3⟩; have HR3 := Lib.hid hr3; have HBC := Lib.hid (below_in HBB.out hb3 HBB.out.size); clear hr3 hb3))
      all_goals
        have HB3 := Lib.hid (below_in HB.out HBC.out HB.out.size)
        go_wp2_with fail
        go_roundw
        case rel => exact ⟨k + 1, A3, c3, by omega, by go_num, by rw [HT.out], by rw [HT.out]; exact HR3.out, HB3.out⟩
        case measure => simp [intOf]; omega
    · have hkl : k = l.length := by omega
      subst hkl
      rw [List.take_length] at HO
      have i1 : ¬ ((l.length : Int) < (l.length : Int)) := by omega
      have e1 : l.take l.length = l := List.take_length
      rw [e1]
      clear e1
      go_wp2_with fail
      go_ret
      exact ⟨A1, ⟨c1, rfl⟩, HO.out, HB.out⟩
end Go.Proofs.Ytoeiongnjogpeaa
