/- Proved here: the function surplus of the package flow builds the map of the net flows. Conditions: the slices read as edges and as numbers of one length. -/
import Derived.Test.YtambnjhopijkfaaProg
import Derived.Test.YtambnjhopijkfaaNet
namespace Go.Proofs.Ytambnjhopijkfaa
open Go.RowKit

set_option maxHeartbeats 400000 in
theorem surplus_any (A F : Option Addr) (c d : Nat) (l : List Edge) (f : List Int) (w : World) (hl : RdE w A l) (hf : RdI w F f) (hlen : f.length = l.length) :
    Calls Try.prog 29 #[.slice A l.length c, .slice F f.length d] w fun e w' => ∃ n, e = .returned (.map (some w.heap.size)) ∧ IMap.IM w' w.heap.size n (surpM l f) ∧ Below w.heap.size w w' := by
  have hm := hl.1
  have HL := Lib.hid hl
  have HF := Lib.hid hf
  have HN := Lib.hid hlen
  clear hl hf hlen
  have hmm := @run_makeMap Try.prog
  go_enter Try.func29, Try.ntmps29
  go_wp2
  clear hmm
  go_loopw [11] (fun i wr => ∃ (k n : Nat), k ≤ l.length ∧ i = .int .i64 k ∧ Hid (IMap.IM wr w.heap.size n (surpM (l.take k) (f.take k))) ∧ Hid (Below w.heap.size w wr)) (fun i _ => l.length - (intOf i).toNat)
  case atStart => exact ⟨0, 0, Nat.zero_le _, rfl, IMap.IM.made w, (Below.refl _ _).alloc (Nat.le_refl _) _⟩
  case round =>
    obtain ⟨k, n, hk, rfl, HI, HB⟩ := hrel
    by_cases hlt : k < l.length
    · have hff : k < f.length := by have := HN.out; omega
      obtain ⟨a, rfl⟩ := HL.out.addr hlt
      obtain ⟨b, rfl⟩ := HF.out.addr hff
      obtain ⟨c0, c1, c2, c3⟩ := HL.out.at_ HB.out hlt
      go_wp2
      clear c0 c1 c2 c3
      refine region_tail 9 (by kernel_rfl) (by kernel_rfl) ?_
      intro W hW
      have hwb : w.heap.size < wr.heap.size := HI.out.lt
      have b1 : W.cell? ⟨wr.heap.size, 1, none⟩ = some (.int .i64 (edAt l k).src) := by rw [hW]; exact box_cell _ _ _ _ _ rfl
      have b2 : W.cell? ⟨wr.heap.size, 2, none⟩ = some (.int .i64 (edAt l k).dst) := by rw [hW]; exact box_cell _ _ _ _ _ rfl
      have hsz : W.heap.size = wr.heap.size + 1 := by rw [hW]; simp [World.drew]
      have hB1 : Below w.heap.size w W := below_in HB.out (by rw [hW]; exact (box_below _ _).drew) (by omega)
      have hI1 : IMap.IM W w.heap.size n (surpM (l.take k) (f.take k)) := by rw [hW]; exact (HI.out.alloc _).drew
      have d1 : W.cell? (b.add k) = some (.int .i64 (numAt f k)) := HF.out.at_ hB1 hff
      have hlk : (Instr.lookup 41 (.map (some w.heap.size)) (.int .i64 (edAt l k).src) false).run Try.prog W = .ok (.int .i64 (wrap64 (net (l.take k) (f.take k) (edAt l k).src))) W := by
        rw [← surpM_getD]
        exact hI1.lookup Try.underlying41 Try.underlying3 (by kernel_rfl) _
      have HB1 := Lib.hid hB1
      have HI1 := Lib.hid hI1
      have HZ := Lib.hid hsz
      clear hB1 hI1 hsz hW
      simp only [List.take_succ_cons, List.take_zero, List.drop_succ_cons, List.drop_zero]
      repeat still_step
      refine wpStill_nil ?_
      refine IMap.wp_update _ rfl _ _ _ 41 rfl 3 3 Try.underlying41 Try.underlying3 w.heap.size n _ rfl HI1.out _ (.int .i64 (IntKind.i64.wrap (wrap64 (net (l.take k) (f.take k) (edAt l k).src) + numAt f k))) rfl rfl ?_
      intro W1 hI2 hg2
      rw [wrap_i64, wrap_add] at hI2
      obtain ⟨n2, hn2⟩ : ∃ n2, n2 = (if (surpM (l.take k) (f.take k) (edAt l k).src).isSome then n else n + 1) := ⟨_, rfl⟩
      rw [← hn2] at hI2
      have hz : W.heap.size = wr.heap.size + 1 := HZ.out
      have e2 : W1.cell? ⟨wr.heap.size, 2, none⟩ = some (.int .i64 (edAt l k).dst) := hg2.cell b2 (by simp; omega)
      have HB2 := Lib.hid (show Below w.heap.size w W1 from HB1.out.grown hg2 (by omega) (fun j hj => by cases hj; omega))
      have HI2 := Lib.hid hI2
      clear hlk hn2 hz hI2 hg2 b1 b2 d1
      simp only [Act.put]
      go_wp2
      refine region_tail 9 (by kernel_rfl) (by kernel_rfl) ?_
      intro W2 hW2
      have b2 : W2.cell? ⟨wr.heap.size, 2, none⟩ = some (.int .i64 (edAt l k).dst) := by rw [hW2]; exact e2
      have hB3 : Below w.heap.size w W2 := by rw [hW2]; exact HB2.out.drew
      have d1 : W2.cell? (b.add k) = some (.int .i64 (numAt f k)) := HF.out.at_ hB3 hff
      have hI3 := (show IMap.IM W2 _ _ _ by rw [hW2]; exact HI2.out.drew)
      have hlk : (Instr.lookup 41 (.map (some w.heap.size)) (.int .i64 (edAt l k).dst) false).run Try.prog W2 = .ok (.int .i64 (wrap64 (net (l.take (k + 1)) (f.take (k + 1)) (edAt l k).dst + numAt f k))) W2 := by
        have hx := hI3.lookup (P := Try.prog) Try.underlying41 Try.underlying3 (z := .int .i64 0) (by kernel_rfl) (edAt l k).dst
        rw [hx, take_ed hlt, take_num hff, surpM_mid _ _ _ _ (by rw [List.length_take, List.length_take]; have := HN.out; omega)]
      have HB3 := Lib.hid hB3
      have HI3 := Lib.hid hI3
      clear hB3 hI3 hW2 e2
      simp only [List.take_succ_cons, List.take_zero, List.drop_succ_cons, List.drop_zero]
      repeat still_step
      refine wpStill_nil ?_
      refine IMap.wp_update _ rfl _ _ _ 41 rfl 3 3 Try.underlying41 Try.underlying3 w.heap.size n2 _ rfl HI3.out _ (.int .i64 (IntKind.i64.wrap (wrap64 (net (l.take (k + 1)) (f.take (k + 1)) (edAt l k).dst + numAt f k) - numAt f k))) rfl rfl ?_
      intro W3 hI4 hg4
      rw [wrap_i64, wrap_sub, Int.add_sub_cancel] at hI4
      obtain ⟨n4, hn4⟩ : ∃ n4, n4 = (if (IMap.upd (surpM (l.take k) (f.take k)) (edAt l k).src (some (.int .i64 (wrap64 (net (l.take k) (f.take k) (edAt l k).src + numAt f k)))) (edAt l k).dst).isSome then n2 else n2 + 1) := ⟨_, rfl⟩
      rw [← hn4] at hI4
      have HI4 := Lib.hid hI4
      have HG4 := Lib.hid hg4
      clear hlk hI4 hg4 b2 d1
      simp only [Act.put]
      go_wp2
      go_roundw
      case rel =>
        refine ⟨k + 1, n4, by omega, by go_num, ?_, ?_⟩
        · have hstep := surpM_step (l.take k) (f.take k) (edAt l k) (numAt f k) (by rw [List.length_take, List.length_take]; have := HN.out; omega) 
          rw [← take_ed hlt, ← take_num hff] at hstep
          exact HI4.out.congr hstep
        · exact HB3.out.grown HG4.out (by have := HB3.out.size; omega) (fun j hj => by cases hj; omega)
      case measure => simp [intOf]; omega
    · go_wp2
      go_ret
      have hkl : k = l.length := by omega
      have hI := HI.out
      rw [hkl, List.take_of_length_le (Nat.le_refl _), List.take_of_length_le (by have := HN.out; omega)] at hI
      exact ⟨n, rfl, hI, HB.out⟩
end Go.Proofs.Ytambnjhopijkfaa
