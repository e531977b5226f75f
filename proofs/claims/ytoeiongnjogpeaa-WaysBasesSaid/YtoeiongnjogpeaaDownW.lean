/- Proved here: the edges of listed runs and lifts: terrain.Down, terrain.Up, and down of the reference of chapter 11. Condition: the map and the list read. Written by gen_down.py. -/
import Derived.Test.YtoeiongnjogpeaaMapAll
import Derived.Test.YtoeiongnjogpeaaContains
import Derived.Test.YtoeiongnjogpeaaHas5
import Derived.Test.YtoeiongnjogpeaaPlainG
import Derived.Deep.DeepMust
namespace Go.Proofs.Ytoeiongnjogpeaa
open Go.RowKit
def runE (x : RunM) : Edge := ⟨x.id, x.src, x.dst, x.len⟩
def liftE (x : LiftM) : Edge := ⟨x.id, x.src, x.dst, x.len⟩
def downL (l : List RunM) (ids : List Int) : List Edge := (l.filter (fun x => decide (x.id ∈ ids))).map runE
def upL (l : List LiftM) (ids : List Int) : List Edge := (l.filter (fun x => decide (x.id ∈ ids))).map liftE
theorem downL_take {l : List RunM} {k : Nat} (h : k < l.length) (ids : List Int) : downL (l.take (k + 1)) ids = downL (l.take k) ids ++ if (runAt l k).id ∈ ids then [runE (runAt l k)] else [] := by
  unfold downL
  rw [take_run h, List.filter_append, List.map_append]
  congr 1
  by_cases hx : (runAt l k).id ∈ ids <;> simp [hx]
theorem upL_take {l : List LiftM} {k : Nat} (h : k < l.length) (ids : List Int) : upL (l.take (k + 1)) ids = upL (l.take k) ids ++ if (liftAt l k).id ∈ ids then [liftE (liftAt l k)] else [] := by
  unfold upL
  rw [take_lift h, List.filter_append, List.map_append]
  congr 1
  by_cases hx : (liftAt l k).id ∈ ids <;> simp [hx]
theorem downL_len (l : List RunM) (ids : List Int) : (downL l ids).length ≤ l.length := by
  unfold downL; rw [List.length_map]; exact List.length_filter_le _ _
theorem upL_len (l : List LiftM) (ids : List Int) : (upL l ids).length ≤ l.length := by
  unfold upL; rw [List.length_map]; exact List.length_filter_le _ _
/-- A slice of the call's own, of edges. -/
def OwnEd (w : World) (B : Nat) (v : Value) (out : List Edge) : Prop := OwnS 94 4 w B v out.length (out.flatMap edgeCells)
theorem OwnEd.nil (w : World) (B : Nat) : OwnEd w B (.slice none 0 0) [] := OwnS.nil _ _ _ _
theorem OwnEd.slice {w : World} {B : Nat} {v : Value} {out : List Edge} (h : OwnEd w B v out) : ∃ A c, v = .slice A out.length c := by
  obtain ⟨A, c, rfl, _, _⟩ := OwnS.slice h
  exact ⟨A, c, rfl⟩
theorem OwnEd.rdE {w : World} {B c : Nat} {A : Option Addr} {out : List Edge} (h : OwnEd w B (.slice A out.length c) out) (hm : out.length ≤ 1000) : RdE w A out := OwnS.rdE (B := B) (c := c) h hm
theorem OwnEd.below {w w' : World} {B : Nat} {v : Value} {out : List Edge} (h : OwnEd w B v out) (hb : Below w.heap.size w w') : OwnEd w' B v out := OwnS.below h hb
theorem wp_appE {ops : Array Oper} {rest : List Oper} {o : Oper} {a : Act} {Q : Exit → Act → World → Prop}
    (hgd : o.guard = none) (s x : Operand) (hop : o.op = Op.call { callee := Callee.builtin Builtin.append, args := #[s, x], argTypes := #[78, 78] })
    (w0 w : World) (v : Value) (out : List Edge) (i p q c : Int) (y : Edge) (hy : y = ⟨i, p, q, c⟩) (hs : a.eval s = v) (hx : a.eval x = .slice (some ⟨w.heap.size, 0, none⟩) 1 1)
    (h : OwnEd w w0.heap.size v out) (hlen : out.length ≤ 1000000) (hb : Below w0.heap.size w0 w)
    (hK : ∀ A' c' w', Hid (OwnEd w' w0.heap.size (.slice A' (out.length + 1) c') (out ++ [y])) → Hid (Below w0.heap.size w0 w') → wpList Try.prog ops Q rest (a.put o.dst (.slice A' (out.length + 1) c')) w') :
    wpList Try.prog ops Q (o :: rest) a (w.alloc (.cells #[.int .i64 i, .int .i64 p, .int .i64 q, .int .i64 c] 94)) := by
  have hsz := hb.size
  subst hy
  refine OwnS.wp_append hgd s x 78 hop 94 (.agg #[.int .i64 0, .int .i64 0, .int .i64 0, .int .i64 0]) 4 32 Try.underlying78 (by kernel_rfl) rfl (by omega) (by omega) w0.heap.size out.length v (out.flatMap edgeCells) hs (OwnS.alloc h _) ⟨w.heap.size, 0, none⟩ 1 (edgeCells ⟨i, p, q, c⟩) hx rfl (box_cells _ #[.int .i64 i, .int .i64 p, .int .i64 q, .int .i64 c] 94 _ rfl) (by simp [edgeCells, Value.oneCell']) (by omega) (by simp; omega) ?_
  intro v' w' ho hg _
  obtain ⟨A', c', rfl, _, _⟩ := ho.slice
  exact hK A' c' w' (by
    show OwnS _ _ _ _ _ _ _
    have e1 : (out ++ [(⟨i, p, q, c⟩ : Edge)]).length = out.length + 1 := by simp
    rw [e1, List.flatMap_append]
    simpa using ho) ((hb.alloc hb.size _).grown hg (by simp; omega) (fun j hj => (OwnS.block h hj).1))
set_option maxRecDepth 100000 in
set_option maxHeartbeats 4000000 in
theorem tdown_any (V : MapA) (m : MapM) (F : Option Addr) (d : Nat) (ids : List Int) (w : World) (hm : RdM w V m) (hf : RdI w F ids) (h1000 : m.runs.length ≤ 1000) :
    Calls Try.prog 51 #[mapV V m, .slice F ids.length d] w fun e w' => ∃ A' c', e = .returned (.slice A' (downL m.runs ids).length c') ∧ RdE w' A' (downL m.runs ids) ∧ Below w.heap.size w w' := by
  obtain ⟨N_, L_, R_, B_, nc, lc, rc, bc⟩ := V
  have hl : RdRun w R_ m.runs := hm.runs
  have hlen := hl.1
  obtain ⟨W1, hW1⟩ : ∃ W1, W1 = w.alloc (.cells #[.slice N_ m.nodes.length nc, .slice L_ m.lifts.length lc, .slice R_ m.runs.length rc, .slice B_ m.bases.length bc] 27) := ⟨_, rfl⟩
  have hb1 : Below w.heap.size w W1 := by rw [hW1]; exact box_below _ _
  have hbx : W1.cell? ⟨w.heap.size, 2, none⟩ = some (.slice R_ m.runs.length rc) := by rw [hW1]; exact box_cell _ _ _ _ _ rfl
  have HL := Lib.hid (hl.below hb1)
  have HC := Lib.hid (fun x W (h : Below W1.heap.size W1 W) => contains_any F d ids x W ((hf.below hb1).below h))
  have HBX := Lib.hid hbx
  have HB1 := Lib.hid hb1
  clear hm hl hf hb1 hbx
  unfold mapV
  dsimp only
  go_enter Try.func51, Try.ntmps51
  go_wp2_with fail
  rw [← hW1]
  clear hW1
  go_loopw [5, 11] (fun ov i wr => ∃ k : Nat, k ≤ m.runs.length ∧ i = .int .i64 k ∧ Hid (OwnEd wr W1.heap.size ov (downL (m.runs.take k) ids)) ∧ Hid (Below W1.heap.size W1 wr)) (fun _ i _ => m.runs.length - (intOf i).toNat)
  case atStart => exact ⟨0, Nat.zero_le _, rfl, OwnEd.nil _ _, Below.refl _ _⟩
  case round =>
    obtain ⟨k, hk, rfl, HO, HB⟩ := hrel
    obtain ⟨A1, c1, rfl⟩ := HO.out.slice
    by_cases hlt : k < m.runs.length
    · have i1 : ((k : Int) < (m.runs.length : Int)) := by omega
      obtain ⟨a, rfl⟩ := HL.out.addr hlt
      obtain ⟨x0, x1, x2, x3, x4, x5, x6⟩ := HL.out.at_ HB.out hlt
      have hst := downL_take hlt ids
      have hle : (downL (m.runs.take k) ids).length ≤ 1000 := by
        have := downL_len (m.runs.take k) ids
        rw [List.length_take] at this
        omega
      obtain ⟨W0, hW0⟩ : ∃ W0, W0 = wr.alloc (.cells #[.int .i64 (runAt m.runs k).id, .int .i64 (runAt m.runs k).op, .int .i64 (runAt m.runs k).src, .int .i64 (runAt m.runs k).dst, .int .i64 (runAt m.runs k).grade, .int .i64 (runAt m.runs k).zone, .int .i64 (runAt m.runs k).len] 37) := ⟨_, rfl⟩
      have y0 : W0.cell? ⟨wr.heap.size, 0, none⟩ = some (.int .i64 (runAt m.runs k).id) := by rw [hW0]; exact box_cell _ _ _ _ _ rfl
      have y1 : W0.cell? ⟨wr.heap.size, 2, none⟩ = some (.int .i64 (runAt m.runs k).src) := by rw [hW0]; exact box_cell _ _ _ _ _ rfl
      have y2 : W0.cell? ⟨wr.heap.size, 3, none⟩ = some (.int .i64 (runAt m.runs k).dst) := by rw [hW0]; exact box_cell _ _ _ _ _ rfl
      have y3 : W0.cell? ⟨wr.heap.size, 6, none⟩ = some (.int .i64 (runAt m.runs k).len) := by rw [hW0]; exact box_cell _ _ _ _ _ rfl
      have HB0 : Hid (Below W1.heap.size W1 W0) := by rw [hW0]; exact HB.out.alloc HB.out.size _
      have HO0 : Hid (OwnEd W0 W1.heap.size (.slice A1 (downL (m.runs.take k) ids).length c1) (downL (m.runs.take k) ids)) := by rw [hW0]; exact OwnS.alloc HO.out _
      have HST := Lib.hid hst
      clear hst
      go_wp2_with fail
      rw [← hW0]
      obtain ⟨H, hH⟩ : ∃ H, H = wr.heap.size := ⟨_, rfl⟩
      rw [← hH] at y0 y1 y2 y3 ⊢
      clear hW0 HB HO x0 x1 x2 x3 x4 x5 x6 hH
      refine (HC.out _ _ HB0.out).mono ?_
      rintro e w1 ⟨rfl, rfl⟩
      by_cases hx : (runAt m.runs k).id ∈ ids
      · rw [decide_eq_true hx]
        have HT := Lib.hid (show downL (m.runs.take (k + 1)) ids = downL (m.runs.take k) ids ++ [runE (runAt m.runs k)] by rw [HST.out, if_pos hx])
        have HZ := Lib.hid HB0.out.size
        clear hx
        go_wp2_with (at_builtin; go_must (refine wp_appE rfl _ _ rfl W1 W0 (.slice A1 (downL (m.runs.take k) ids).length c1) (downL (m.runs.take k) ids) ((runAt m.runs k).id) ((runAt m.runs k).src) ((runAt m.runs k).dst) ((runAt m.runs k).len) (runE (runAt m.runs k)) rfl rfl rfl HO0.out (by omega) HB0.out ?_); intro A3 c3 w3 HO3 HB3)
        go_roundw
        case rel => exact ⟨k + 1, by omega, by go_num, by rw [HT.out]; exact (show (downL (m.runs.take k) ids).length + 1 = (downL (m.runs.take k) ids ++ [runE (runAt m.runs k)]).length by simp) ▸ HO3.out, HB3.out⟩
        case measure => simp [intOf]; omega
      · rw [decide_eq_false hx]
        have HT := Lib.hid (show downL (m.runs.take (k + 1)) ids = downL (m.runs.take k) ids by rw [HST.out, if_neg hx, List.append_nil])
        clear hx
        go_wp2_with fail
        go_roundw
        case rel => exact ⟨k + 1, by omega, by go_num, by rw [HT.out]; exact HO0.out, HB0.out⟩
        case measure => simp [intOf]; omega
    · have hkl : k = m.runs.length := by omega
      subst hkl
      rw [List.take_length] at HO
      have i1 : ¬ ((m.runs.length : Int) < (m.runs.length : Int)) := by omega
      have hle := downL_len m.runs ids
      go_wp2_with fail
      go_ret
      exact ⟨A1, ⟨_, rfl⟩, HO.out.rdE (by omega), below_in HB1.out HB.out HB1.out.size⟩
set_option maxRecDepth 100000 in
set_option maxHeartbeats 4000000 in
theorem tup_any (V : MapA) (m : MapM) (F : Option Addr) (d : Nat) (ids : List Int) (w : World) (hm : RdM w V m) (hf : RdI w F ids) (h1000 : m.lifts.length ≤ 1000) :
    Calls Try.prog 69 #[mapV V m, .slice F ids.length d] w fun e w' => ∃ A' c', e = .returned (.slice A' (upL m.lifts ids).length c') ∧ RdE w' A' (upL m.lifts ids) ∧ Below w.heap.size w w' := by
  obtain ⟨N_, L_, R_, B_, nc, lc, rc, bc⟩ := V
  have hl : RdLift w L_ m.lifts := hm.lifts
  have hlen := hl.1
  obtain ⟨W1, hW1⟩ : ∃ W1, W1 = w.alloc (.cells #[.slice N_ m.nodes.length nc, .slice L_ m.lifts.length lc, .slice R_ m.runs.length rc, .slice B_ m.bases.length bc] 27) := ⟨_, rfl⟩
  have hb1 : Below w.heap.size w W1 := by rw [hW1]; exact box_below _ _
  have hbx : W1.cell? ⟨w.heap.size, 1, none⟩ = some (.slice L_ m.lifts.length lc) := by rw [hW1]; exact box_cell _ _ _ _ _ rfl
  have HL := Lib.hid (hl.below hb1)
  have HC := Lib.hid (fun x W (h : Below W1.heap.size W1 W) => contains_any F d ids x W ((hf.below hb1).below h))
  have HBX := Lib.hid hbx
  have HB1 := Lib.hid hb1
  clear hm hl hf hb1 hbx
  unfold mapV
  dsimp only
  go_enter Try.func69, Try.ntmps69
  go_wp2_with fail
  rw [← hW1]
  clear hW1
  go_loopw [5, 11] (fun ov i wr => ∃ k : Nat, k ≤ m.lifts.length ∧ i = .int .i64 k ∧ Hid (OwnEd wr W1.heap.size ov (upL (m.lifts.take k) ids)) ∧ Hid (Below W1.heap.size W1 wr)) (fun _ i _ => m.lifts.length - (intOf i).toNat)
  case atStart => exact ⟨0, Nat.zero_le _, rfl, OwnEd.nil _ _, Below.refl _ _⟩
  case round =>
    obtain ⟨k, hk, rfl, HO, HB⟩ := hrel
    obtain ⟨A1, c1, rfl⟩ := HO.out.slice
    by_cases hlt : k < m.lifts.length
    · have i1 : ((k : Int) < (m.lifts.length : Int)) := by omega
      obtain ⟨a, rfl⟩ := HL.out.addr hlt
      obtain ⟨x0, x1, x2, x3, x4, x5, x6, x7⟩ := HL.out.at_ HB.out hlt
      have hst := upL_take hlt ids
      have hle : (upL (m.lifts.take k) ids).length ≤ 1000 := by
        have := upL_len (m.lifts.take k) ids
        rw [List.length_take] at this
        omega
      obtain ⟨W0, hW0⟩ : ∃ W0, W0 = wr.alloc (.cells #[.int .i64 (liftAt m.lifts k).id, .int .i64 (liftAt m.lifts k).op, .int .i64 (liftAt m.lifts k).src, .int .i64 (liftAt m.lifts k).dst, .int .i64 (liftAt m.lifts k).len, .int .i64 (liftAt m.lifts k).speed, .int .i64 (liftAt m.lifts k).seats, .int .i64 (liftAt m.lifts k).space] 92) := ⟨_, rfl⟩
      have y0 : W0.cell? ⟨wr.heap.size, 0, none⟩ = some (.int .i64 (liftAt m.lifts k).id) := by rw [hW0]; exact box_cell _ _ _ _ _ rfl
      have y1 : W0.cell? ⟨wr.heap.size, 2, none⟩ = some (.int .i64 (liftAt m.lifts k).src) := by rw [hW0]; exact box_cell _ _ _ _ _ rfl
      have y2 : W0.cell? ⟨wr.heap.size, 3, none⟩ = some (.int .i64 (liftAt m.lifts k).dst) := by rw [hW0]; exact box_cell _ _ _ _ _ rfl
      have y3 : W0.cell? ⟨wr.heap.size, 4, none⟩ = some (.int .i64 (liftAt m.lifts k).len) := by rw [hW0]; exact box_cell _ _ _ _ _ rfl
      have HB0 : Hid (Below W1.heap.size W1 W0) := by rw [hW0]; exact HB.out.alloc HB.out.size _
      have HO0 : Hid (OwnEd W0 W1.heap.size (.slice A1 (upL (m.lifts.take k) ids).length c1) (upL (m.lifts.take k) ids)) := by rw [hW0]; exact OwnS.alloc HO.out _
      have HST := Lib.hid hst
      clear hst
      go_wp2_with fail
      rw [← hW0]
      obtain ⟨H, hH⟩ : ∃ H, H = wr.heap.size := ⟨_, rfl⟩
      rw [← hH] at y0 y1 y2 y3 ⊢
      clear hW0 HB HO x0 x1 x2 x3 x4 x5 x6 x7 hH
      refine (HC.out _ _ HB0.out).mono ?_
      rintro e w1 ⟨rfl, rfl⟩
      by_cases hx : (liftAt m.lifts k).id ∈ ids
      · rw [decide_eq_true hx]
        have HT := Lib.hid (show upL (m.lifts.take (k + 1)) ids = upL (m.lifts.take k) ids ++ [liftE (liftAt m.lifts k)] by rw [HST.out, if_pos hx])
        have HZ := Lib.hid HB0.out.size
        clear hx
        go_wp2_with (at_builtin; go_must (refine wp_appE rfl _ _ rfl W1 W0 (.slice A1 (upL (m.lifts.take k) ids).length c1) (upL (m.lifts.take k) ids) ((liftAt m.lifts k).id) ((liftAt m.lifts k).src) ((liftAt m.lifts k).dst) ((liftAt m.lifts k).len) (liftE (liftAt m.lifts k)) rfl rfl rfl HO0.out (by omega) HB0.out ?_); intro A3 c3 w3 HO3 HB3)
        go_roundw
        case rel => exact ⟨k + 1, by omega, by go_num, by rw [HT.out]; exact (show (upL (m.lifts.take k) ids).length + 1 = (upL (m.lifts.take k) ids ++ [liftE (liftAt m.lifts k)]).length by simp) ▸ HO3.out, HB3.out⟩
        case measure => simp [intOf]; omega
      · rw [decide_eq_false hx]
        have HT := Lib.hid (show upL (m.lifts.take (k + 1)) ids = upL (m.lifts.take k) ids by rw [HST.out, if_neg hx, List.append_nil])
        clear hx
        go_wp2_with fail
        go_roundw
        case rel => exact ⟨k + 1, by omega, by go_num, by rw [HT.out]; exact HO0.out, HB0.out⟩
        case measure => simp [intOf]; omega
    · have hkl : k = m.lifts.length := by omega
      subst hkl
      rw [List.take_length] at HO
      have i1 : ¬ ((m.lifts.length : Int) < (m.lifts.length : Int)) := by omega
      have hle := upL_len m.lifts ids
      go_wp2_with fail
      go_ret
      exact ⟨A1, ⟨_, rfl⟩, HO.out.rdE (by omega), below_in HB1.out HB.out HB1.out.size⟩
set_option maxRecDepth 100000 in
set_option maxHeartbeats 4000000 in
theorem rdown_any (V : MapA) (m : MapM) (F : Option Addr) (d : Nat) (ids : List Int) (w : World) (hm : RdM w V m) (hf : RdI w F ids) (h1000 : m.runs.length ≤ 1000) :
    Calls Try.prog 70 #[mapV V m, .slice F ids.length d] w fun e w' => ∃ A' c', e = .returned (.slice A' (downL m.runs ids).length c') ∧ RdE w' A' (downL m.runs ids) ∧ Below w.heap.size w w' := by
  obtain ⟨N_, L_, R_, B_, nc, lc, rc, bc⟩ := V
  have hl : RdRun w R_ m.runs := hm.runs
  have hlen := hl.1
  obtain ⟨W1, hW1⟩ : ∃ W1, W1 = w.alloc (.cells #[.slice N_ m.nodes.length nc, .slice L_ m.lifts.length lc, .slice R_ m.runs.length rc, .slice B_ m.bases.length bc] 27) := ⟨_, rfl⟩
  have hb1 : Below w.heap.size w W1 := by rw [hW1]; exact box_below _ _
  have hbx : W1.cell? ⟨w.heap.size, 2, none⟩ = some (.slice R_ m.runs.length rc) := by rw [hW1]; exact box_cell _ _ _ _ _ rfl
  have HL := Lib.hid (hl.below hb1)
  have HC := Lib.hid (fun x W (h : Below W1.heap.size W1 W) => has_any F d ids x W ((hf.below hb1).below h))
  have HBX := Lib.hid hbx
  have HB1 := Lib.hid hb1
  clear hm hl hf hb1 hbx
  unfold mapV
  dsimp only
  go_enter Try.func70, Try.ntmps70
  go_wp2_with fail
  rw [← hW1]
  clear hW1
  go_loopw [5, 6] (fun ov i wr => ∃ k : Nat, k ≤ m.runs.length ∧ i = .int .i64 k ∧ Hid (OwnEd wr W1.heap.size ov (downL (m.runs.take k) ids)) ∧ Hid (Below W1.heap.size W1 wr)) (fun _ i _ => m.runs.length - (intOf i).toNat)
  case atStart => exact ⟨0, Nat.zero_le _, rfl, OwnEd.nil _ _, Below.refl _ _⟩
  case round =>
    obtain ⟨k, hk, rfl, HO, HB⟩ := hrel
    obtain ⟨A1, c1, rfl⟩ := HO.out.slice
    by_cases hlt : k < m.runs.length
    · have i1 : ((k : Int) < (m.runs.length : Int)) := by omega
      obtain ⟨a, rfl⟩ := HL.out.addr hlt
      obtain ⟨x0, x1, x2, x3, x4, x5, x6⟩ := HL.out.at_ HB.out hlt
      have ybx := (HB.out.cell (World.block_lt_of_cell? _ _ HBX.out)).trans HBX.out
      have hst := downL_take hlt ids
      have hle : (downL (m.runs.take k) ids).length ≤ 1000 := by
        have := downL_len (m.runs.take k) ids
        rw [List.length_take] at this
        omega
      obtain ⟨W0, hW0⟩ : ∃ W0, W0 = wr.alloc (.cells #[.int .i64 (runAt m.runs k).id, .int .i64 (runAt m.runs k).op, .int .i64 (runAt m.runs k).src, .int .i64 (runAt m.runs k).dst, .int .i64 (runAt m.runs k).grade, .int .i64 (runAt m.runs k).zone, .int .i64 (runAt m.runs k).len] 37) := ⟨_, rfl⟩
      have y0 : W0.cell? ⟨wr.heap.size, 0, none⟩ = some (.int .i64 (runAt m.runs k).id) := by rw [hW0]; exact box_cell _ _ _ _ _ rfl
      have y1 : W0.cell? ⟨wr.heap.size, 2, none⟩ = some (.int .i64 (runAt m.runs k).src) := by rw [hW0]; exact box_cell _ _ _ _ _ rfl
      have y2 : W0.cell? ⟨wr.heap.size, 3, none⟩ = some (.int .i64 (runAt m.runs k).dst) := by rw [hW0]; exact box_cell _ _ _ _ _ rfl
      have y3 : W0.cell? ⟨wr.heap.size, 6, none⟩ = some (.int .i64 (runAt m.runs k).len) := by rw [hW0]; exact box_cell _ _ _ _ _ rfl
      have HB0 : Hid (Below W1.heap.size W1 W0) := by rw [hW0]; exact HB.out.alloc HB.out.size _
      have HO0 : Hid (OwnEd W0 W1.heap.size (.slice A1 (downL (m.runs.take k) ids).length c1) (downL (m.runs.take k) ids)) := by rw [hW0]; exact OwnS.alloc HO.out _
      have HST := Lib.hid hst
      clear hst
      go_wp2_with fail
      rw [← hW0]
      obtain ⟨H, hH⟩ : ∃ H, H = wr.heap.size := ⟨_, rfl⟩
      rw [← hH] at y0 y1 y2 y3 ⊢
      clear hW0 HB HO x0 x1 x2 x3 x4 x5 x6 hH ybx
      refine (HC.out _ _ HB0.out).mono ?_
      rintro e w1 ⟨rfl, rfl⟩
      by_cases hx : (runAt m.runs k).id ∈ ids
      · rw [decide_eq_true hx]
        have HT := Lib.hid (show downL (m.runs.take (k + 1)) ids = downL (m.runs.take k) ids ++ [runE (runAt m.runs k)] by rw [HST.out, if_pos hx])
        have HZ := Lib.hid HB0.out.size
        clear hx
        go_wp2_with (at_builtin; go_must (refine wp_appE rfl _ _ rfl W1 W0 (.slice A1 (downL (m.runs.take k) ids).length c1) (downL (m.runs.take k) ids) ((runAt m.runs k).id) ((runAt m.runs k).src) ((runAt m.runs k).dst) ((runAt m.runs k).len) (runE (runAt m.runs k)) rfl rfl rfl HO0.out (by omega) HB0.out ?_); intro A3 c3 w3 HO3 HB3)
        go_roundw
        case rel => exact ⟨k + 1, by omega, by go_num, by rw [HT.out]; exact (show (downL (m.runs.take k) ids).length + 1 = (downL (m.runs.take k) ids ++ [runE (runAt m.runs k)]).length by simp) ▸ HO3.out, HB3.out⟩
        case measure => simp [intOf]; omega
      · rw [decide_eq_false hx]
        have HT := Lib.hid (show downL (m.runs.take (k + 1)) ids = downL (m.runs.take k) ids by rw [HST.out, if_neg hx, List.append_nil])
        clear hx
        go_wp2_with fail
        go_roundw
        case rel => exact ⟨k + 1, by omega, by go_num, by rw [HT.out]; exact HO0.out, HB0.out⟩
        case measure => simp [intOf]; omega
    · have hkl : k = m.runs.length := by omega
      subst hkl
      rw [List.take_length] at HO
      have i1 : ¬ ((m.runs.length : Int) < (m.runs.length : Int)) := by omega
      have ybx := (HB.out.cell (World.block_lt_of_cell? _ _ HBX.out)).trans HBX.out
      have hle := downL_len m.runs ids
      go_wp2_with fail
      go_ret
      exact ⟨A1, ⟨_, rfl⟩, HO.out.rdE (by omega), below_in HB1.out HB.out HB1.out.size⟩
end Go.Proofs.Ytoeiongnjogpeaa
