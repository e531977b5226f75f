/- Proved here: small of the laws of chapter 11. Condition: the argument reads. Written by gen_wlaw.py. -/
import Derived.Test.YtoeiongnjogpeaaWAlive2
import Derived.Test.YtoeiongnjogpeaaOpenOpen
namespace Go.Proofs.Ytoeiongnjogpeaa
open Go.RowKit
def openBox (w : World) (H : Nat) (N_ L_ R_ B_ F_ G_ : Option Addr) (nc lc rc bc fc gc : Nat) (x : OpenM) : Prop := w.cell? ⟨H, 0, none⟩ = some (.slice N_ x.m.nodes.length nc) ∧ w.cell? ⟨H, 1, none⟩ = some (.slice L_ x.m.lifts.length lc) ∧ w.cell? ⟨H, 2, none⟩ = some (.slice R_ x.m.runs.length rc) ∧ w.cell? ⟨H, 3, none⟩ = some (.slice B_ x.m.bases.length bc) ∧ w.cell? ⟨H, 4, none⟩ = some (.slice F_ x.lifts.length fc) ∧ w.cell? ⟨H, 5, none⟩ = some (.slice G_ x.runs.length gc)
theorem openBox_new (w : World) (N_ L_ R_ B_ F_ G_ : Option Addr) (nc lc rc bc fc gc : Nat) (x : OpenM) : openBox (w.alloc (.cells #[.slice N_ x.m.nodes.length nc, .slice L_ x.m.lifts.length lc, .slice R_ x.m.runs.length rc, .slice B_ x.m.bases.length bc, .slice F_ x.lifts.length fc, .slice G_ x.runs.length gc] 52)) w.heap.size N_ L_ R_ B_ F_ G_ nc lc rc bc fc gc x :=
  ⟨box_cell _ _ _ _ _ rfl, box_cell _ _ _ _ _ rfl, box_cell _ _ _ _ _ rfl, box_cell _ _ _ _ _ rfl, box_cell _ _ _ _ _ rfl, box_cell _ _ _ _ _ rfl⟩
theorem openBox.below {w W : World} {H : Nat} {N_ L_ R_ B_ F_ G_ : Option Addr} {nc lc rc bc fc gc : Nat} {x : OpenM} (h : openBox w H N_ L_ R_ B_ F_ G_ nc lc rc bc fc gc x) (hb : Below w.heap.size w W) : openBox W H N_ L_ R_ B_ F_ G_ nc lc rc bc fc gc x := by
  have z := fun {p : Addr} {v : Value} (hc : w.cell? p = some v) => (hb.cell (World.block_lt_of_cell? w _ hc)).trans hc
  exact ⟨z h.1, z h.2.1, z h.2.2.1, z h.2.2.2.1, z h.2.2.2.2.1, z h.2.2.2.2.2⟩
def SmallPost (x : OpenM) (w : World) (e : Ending) (w' : World) : Prop := ∃ b : Bool, e = .returned (.bool b) ∧ (b = true → x.lifts.length ≤ 100 ∧ x.runs.length ≤ 100 ∧ MapOk x.m) ∧ Below w.heap.size w w'
set_option maxRecDepth 100000 in
set_option maxHeartbeats 4000000 in
theorem small_any (V : OpenA) (x : OpenM) (w : World) (hx : RdO w V x) :
    Calls Try.prog 22 #[openV V x] w (SmallPost x w) := by
  obtain ⟨W1, hW1⟩ : ∃ W1, W1 = w.alloc (.cells #[.slice V.V.N x.m.nodes.length V.V.n, .slice V.V.L x.m.lifts.length V.V.l, .slice V.V.R x.m.runs.length V.V.r, .slice V.V.B x.m.bases.length V.V.b, .slice V.lifts x.lifts.length V.lc, .slice V.runs x.runs.length V.rc] 52) := ⟨_, rfl⟩
  have hb1 : Below w.heap.size w W1 := by rw [hW1]; exact box_below _ _
  have hr := rmapright_any V.V x.m W1 (hx.m.below hb1)
  have e1 := hx.lifts.1
  have e2 := hx.runs.1
  obtain ⟨⟨N_, L_, R_, B_, nc, lc, rc, bc⟩, F_, G_, fc, gc⟩ := V
  dsimp only at hr hW1
  unfold mapV at hr
  dsimp only at hr
  have HR := Lib.hid hr
  have HB1 := Lib.hid hb1
  clear hx hr hb1
  unfold openV
  dsimp only
  have hcase : 100 < x.lifts.length ∨ (x.lifts.length ≤ 100 ∧ 100 < x.runs.length) ∨ (x.lifts.length ≤ 100 ∧ x.runs.length ≤ 100) := by omega
  rcases hcase with h1 | ⟨h1, h2⟩ | ⟨h1, h2⟩
  · go_enter Try.func22, Try.ntmps22
    go_wp2_with fail
    go_ret
    exact ⟨false, rfl, (fun h => by cases h), box_below _ _⟩
  · go_enter Try.func22, Try.ntmps22
    go_wp2_with fail
    go_ret
    exact ⟨false, rfl, (fun h => by cases h), box_below _ _⟩
  · have HLEN := Lib.hid (show x.lifts.length ≤ 100 ∧ x.runs.length ≤ 100 from ⟨h1, h2⟩)
    go_enter Try.func22, Try.ntmps22
    rw [hW1] at HR
    go_wp2_with fail
    refine HR.out.mono ?_
    rw [← hW1]
    rintro e w2 ⟨k, rfl, hk, hb⟩
    have HB2 := Lib.hid (below_in HB1.out hb HB1.out.size)
    by_cases hz : k = 0
    · have t1 : (k == 0) = true := by simp [hz]
      have HOK := Lib.hid (hk hz)
      clear hk hb hz HR hW1
      go_wp2_with fail
      go_ret
      exact ⟨true, rfl, fun _ => ⟨HLEN.out.1, HLEN.out.2, HOK.out⟩, HB2.out⟩
    · have t1 : (k == 0) = false := by simp [hz]
      clear hk hb hz HR hW1
      go_wp2_with fail
      go_ret
      exact ⟨false, rfl, (fun h => by cases h), HB2.out⟩
end Go.Proofs.Ytoeiongnjogpeaa
