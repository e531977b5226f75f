/- Proved here: the reference's look-up of a run, with the world behind it told. Condition: the map reads. -/
import Derived.Test.YtoeiongnjogpeaaLookRun
namespace Go.Proofs.Ytoeiongnjogpeaa
open Go.RowKit
def runCs (l : List RunM) (i : Int) : Array Value := match findRun l i with
  | none => #[.int .i64 0, .int .i64 0, .int .i64 0, .int .i64 0, .int .i64 0, .int .i64 0, .int .i64 0]
  | some e => #[.int .i64 e.id, .int .i64 e.op, .int .i64 e.src, .int .i64 e.dst, .int .i64 e.grade, .int .i64 e.zone, .int .i64 e.len]
set_option maxRecDepth 100000 in
set_option maxHeartbeats 4000000 in
/-- The reference's. -/
theorem rrun_w (V : MapA) (m : MapM) (i : Int) (w : World) (hm : RdM w V m) :
    Calls Try.prog 15 #[mapV V m, .int .i64 i] w fun e w' => e = .returned (runR m.runs i) ∧ (w.alloc (.cells #[.slice V.N m.nodes.length V.n, .slice V.L m.lifts.length V.l, .slice V.R m.runs.length V.r, .slice V.B m.bases.length V.b] 27)).alloc (.cells (runCs m.runs i) 37) = w' := by
  obtain ⟨N_, L_, R_, B_, nc, lc, rc, bc⟩ := V
  have hl : RdRun w R_ m.runs := hm.runs
  have hlen := hl.1
  have HL := Lib.hid hl
  have HB0 := Lib.hid (show Below w.heap.size w ((w.alloc (.cells #[.slice N_ m.nodes.length nc, .slice L_ m.lifts.length lc, .slice R_ m.runs.length rc, .slice B_ m.bases.length bc] 27)).alloc (.cells #[.int .i64 0, .int .i64 0, .int .i64 0, .int .i64 0, .int .i64 0, .int .i64 0, .int .i64 0] 37)) from ((Below.refl _ _).alloc (Nat.le_refl _) _).alloc (by simp) _)
  clear hm hl
  unfold mapV
  dsimp only
  go_enter Try.func15, Try.ntmps15
  go_wp2_with fail
  go_loop [6] (fun v => ∃ k : Nat, k ≤ m.runs.length ∧ v = .int .i64 k ∧ Hid (∀ j, j < k → (runAt m.runs j).id ≠ i)) (fun v => m.runs.length - (intOf v).toNat)
  case atStart => exact ⟨0, Nat.zero_le _, rfl, fun j h => by omega⟩
  case round =>
    obtain ⟨k, hk, rfl, HI⟩ := hrel
    by_cases hlt : k < m.runs.length
    · have i1 : ((k : Int) < (m.runs.length : Int)) := by omega
      obtain ⟨a, rfl⟩ := HL.out.addr hlt
      obtain ⟨x0, x1, x2, x3, x4, x5, x6⟩ := HL.out.at_ HB0.out hlt
      by_cases he : (runAt m.runs k).id = i
      · have he' : ((runAt m.runs k).id == i) = true := by simp [he]
        have HE := Lib.hid (show runR m.runs i = .tuple #[.agg #[.int .i64 (runAt m.runs k).id, .int .i64 (runAt m.runs k).op, .int .i64 (runAt m.runs k).src, .int .i64 (runAt m.runs k).dst, .int .i64 (runAt m.runs k).grade, .int .i64 (runAt m.runs k).zone, .int .i64 (runAt m.runs k).len], .bool true] by
          unfold runR
          rw [findRun_at hlt he HI.out])
        have HC := Lib.hid (show runCs m.runs i = #[.int .i64 (runAt m.runs k).id, .int .i64 (runAt m.runs k).op, .int .i64 (runAt m.runs k).src, .int .i64 (runAt m.runs k).dst, .int .i64 (runAt m.runs k).grade, .int .i64 (runAt m.runs k).zone, .int .i64 (runAt m.runs k).len] by
          unfold runCs
          rw [findRun_at hlt he HI.out])
        clear he
        go_wp2_with fail
        refine bodyPost_ret (v := .tuple #[.agg #[.int .i64 (runAt m.runs k).id, .int .i64 (runAt m.runs k).op, .int .i64 (runAt m.runs k).src, .int .i64 (runAt m.runs k).dst, .int .i64 (runAt m.runs k).grade, .int .i64 (runAt m.runs k).zone, .int .i64 (runAt m.runs k).len], .bool true]) (by simp [results, go_sem]) rfl ⟨by rw [HE.out], by rw [HC.out]⟩
      · have he' : ((runAt m.runs k).id == i) = false := by simp [he]
        have HN := Lib.hid (show ∀ j, j < k + 1 → (runAt m.runs j).id ≠ i from fun j hj => by
          rcases Nat.lt_or_ge j k with h | h
          · exact HI.out j h
          · have : j = k := by omega
            subst this
            exact he)
        clear he
        go_wp2_with fail
        go_round
        case rel => exact ⟨k + 1, by omega, by go_num, HN.out⟩
        case measure => simp [intOf]; omega
    · have HE := Lib.hid (show runR m.runs i = .tuple #[.agg #[.int .i64 0, .int .i64 0, .int .i64 0, .int .i64 0, .int .i64 0, .int .i64 0, .int .i64 0], .bool false] by
        unfold runR
        rw [findRun_no (fun j hj => HI.out j (by omega))])
      have HC := Lib.hid (show runCs m.runs i = #[.int .i64 0, .int .i64 0, .int .i64 0, .int .i64 0, .int .i64 0, .int .i64 0, .int .i64 0] by
        unfold runCs
        rw [findRun_no (fun j hj => HI.out j (by omega))])
      have i1 : ¬ ((k : Int) < (m.runs.length : Int)) := by omega
      go_wp2_with fail
      refine bodyPost_ret (v := .tuple #[.agg #[.int .i64 0, .int .i64 0, .int .i64 0, .int .i64 0, .int .i64 0, .int .i64 0, .int .i64 0], .bool false]) (by simp [results, go_sem]) rfl ⟨by rw [HE.out], by rw [HC.out]⟩
end Go.Proofs.Ytoeiongnjogpeaa
