/- Proved here: in, rises, carriers, nodes of the reference of chapter 10: what no error means. Condition: the map reads. -/
import Derived.Test.YtoeiongnjogpeaaWHome
import Derived.IntWalk
namespace Go.Proofs.Ytoeiongnjogpeaa
open Go.RowKit
/-- An error number comes back; none means P. -/
def OkPost (P : Prop) (w : World) (e : Ending) (w' : World) : Prop := ∃ k : Int, e = .returned (.int .i64 k) ∧ (k = 0 → P) ∧ Below w.heap.size w w'
def inB (n lo hi : Int) : Bool := decide (lo ≤ n) && decide (n ≤ hi)
theorem inB_true {n lo hi : Int} : inB n lo hi = true ↔ lo ≤ n ∧ n ≤ hi := by unfold inB; simp
theorem rin_any (n lo hi : Int) (w : World) : Calls Try.prog 86 #[.int .i64 n, .int .i64 lo, .int .i64 hi] w fun e w' => e = .returned (.bool (inB n lo hi)) ∧ w = w' := by
  by_cases h1 : lo ≤ n
  · have HR := Lib.hid (show inB n lo hi = decide (n ≤ hi) by unfold inB; simp [h1])
    go_enter Try.func86, Try.ntmps86
    go_wp2_with fail
    go_ret
    exact ⟨by rw [HR.out]; rfl, rfl⟩
  · have HR := Lib.hid (show inB n lo hi = false by unfold inB; simp [h1])
    go_enter Try.func86, Try.ntmps86
    go_wp2_with fail
    go_ret
    exact ⟨by rw [HR.out]; rfl, rfl⟩
def NodesOk (l : List NodeM) (k : Nat) : Prop := (∀ j, j < k → ((1 ≤ (nodeAt l j).id ∧ (nodeAt l j).id ≤ 9999) ∧ 0 ≤ (nodeAt l j).alt ∧ (nodeAt l j).alt ≤ 5000)) ∧ ∀ j, j + 1 < k → (nodeAt l j).id < (nodeAt l (j + 1)).id
set_option maxRecDepth 100000 in
set_option maxHeartbeats 4000000 in
theorem rnodes_any (A : Option Addr) (c : Nat) (l : List NodeM) (w : World) (hl : RdNode w A l) :
    Calls Try.prog 41 #[.slice A l.length c] w (OkPost (NodesOk l l.length) w) := by
  have hm := hl.1
  have HL := Lib.hid hl
  have HIN := Lib.hid (fun n lo hi W => rin_any n lo hi W)
  clear hl
  go_enter Try.func41, Try.ntmps41
  go_wp2_with fail
  go_loopw [3] (fun iv wr => ∃ k : Nat, k ≤ l.length ∧ iv = .int .i64 k ∧ Hid (NodesOk l k) ∧ Hid (Below w.heap.size w wr)) (fun iv _ => l.length - (intOf iv).toNat)
  case atStart => exact ⟨0, Nat.zero_le _, rfl, ⟨fun j h => by omega, fun j h => by omega⟩, Below.refl _ _⟩
  case round =>
    obtain ⟨k, hk, rfl, HI, HB⟩ := hrel
    by_cases hlt : k < l.length
    · have i1 : ((k : Int) < (l.length : Int)) := by omega
      obtain ⟨a, rfl⟩ := HL.out.addr hlt
      obtain ⟨x0, x1⟩ := HL.out.at_ HB.out hlt
      have hcase : inB (nodeAt l k).id 1 9999 = false ∨ (inB (nodeAt l k).id 1 9999 = true ∧ inB (nodeAt l k).alt 0 5000 = false) ∨ (inB (nodeAt l k).id 1 9999 = true ∧ inB (nodeAt l k).alt 0 5000 = true) := by
        cases inB (nodeAt l k).id 1 9999 <;> cases inB (nodeAt l k).alt 0 5000 <;> simp
      rcases hcase with t1 | ⟨t1, t2⟩ | ⟨t1, t2⟩
      · go_wp2_with ((go_at_call 86; refine (HIN.out _ _ _ _).mono ?_; rintro e w1 ⟨rfl, rfl⟩))
        go_ret
        exact ⟨2, rfl, (fun h => by cases h), HB.out⟩
      · go_wp2_with ((go_at_call 86; refine (HIN.out _ _ _ _).mono ?_; rintro e w1 ⟨rfl, rfl⟩))
        go_ret
        exact ⟨2, rfl, (fun h => by cases h), HB.out⟩
      · have HT := Lib.hid (show ((1 ≤ (nodeAt l k).id ∧ (nodeAt l k).id ≤ 9999) ∧ 0 ≤ (nodeAt l k).alt ∧ (nodeAt l k).alt ≤ 5000) from ⟨inB_true.1 t1, inB_true.1 t2⟩)
        go_wp2_with ((go_at_call 86; refine (HIN.out _ _ _ _).mono ?_; rintro e w1 ⟨rfl, rfl⟩))
        clear t1 t2
        have hstep : (k = 0 ∨ ∃ j, k = j + 1 ∧ (nodeAt l j).id < (nodeAt l (j + 1)).id) → NodesOk l (k + 1) := fun h => by
          refine ⟨fun j hj => ?_, fun j hj => ?_⟩
          · rcases Nat.lt_or_ge j k with h1 | h1
            · exact HI.out.1 j h1
            · have : j = k := by omega
              subst this
              exact HT.out
          · rcases Nat.lt_or_ge (j + 1) k with h1 | h1
            · exact HI.out.2 j h1
            · rcases h with h | ⟨q, hq, hlt⟩
              · omega
              · have : j = q := by omega
                subst this
                exact hlt
        have HSTEP := Lib.hid hstep
        clear hstep
        by_cases hk0 : k = 0
        · have HN := Lib.hid (HSTEP.out (.inl hk0))
          subst hk0
          have t3 : ¬ ((0 : Int) < ((0 : Nat) : Int)) := by omega
          go_big_quiet (fail)
          go_wp2_with fail
          go_roundw
          case rel => exact ⟨1, by omega, by go_num, HN.out, below_drewN HB.out _⟩
          case measure => simp [intOf]; omega
        · have t3 : (0 : Int) < (k : Int) := by omega
          have t3' : 0 < k := by omega
          have hk1 : k - 1 < l.length := by omega
          have z := (HL.out.at_ HB.out hk1).1
          have i2 : (0 : Int) ≤ (k : Int) - 1 := by omega
          have i3 : (k : Int) - 1 < (l.length : Int) := by omega
          have i4 : ((k : Int) - 1).toNat = k - 1 := by omega
          obtain ⟨p, hp⟩ : ∃ p, p = (nodeAt l (k - 1)).id := ⟨_, rfl⟩
          have HP := Lib.hid hp
          rw [← hp] at z
          clear hp
          by_cases hle : (nodeAt l k).id ≤ p
          · have W_ : IntKind.i64.wrap ((k : Int) - 1) = (k : Int) - 1 := IntWalk.i64_in _ (by omega)
            go_big_quiet (fail)
            clear W_
            go_wp2_with fail
            go_ret
            exact ⟨7, rfl, (fun h => by cases h), below_drewN HB.out _⟩
          · have HN := Lib.hid (HSTEP.out (.inr ⟨k - 1, by omega, by
              have h1 := HP.out
              rw [show k - 1 + 1 = k by omega]
              omega⟩))
            have W_ : IntKind.i64.wrap ((k : Int) - 1) = (k : Int) - 1 := IntWalk.i64_in _ (by omega)
            go_big_quiet (fail)
            clear W_
            go_wp2_with fail
            go_roundw
            case rel => exact ⟨k + 1, by omega, by go_num, HN.out, below_drewN HB.out _⟩
            case measure => simp [intOf]; omega
    · have hkl : k = l.length := by omega
      subst hkl
      have i1 : ¬ ((l.length : Int) < (l.length : Int)) := by omega
      go_wp2_with fail
      go_ret
      exact ⟨0, rfl, fun _ => HI.out, HB.out⟩
set_option maxRecDepth 100000 in
set_option maxHeartbeats 4000000 in
theorem rrises_any (V : MapA) (m : MapM) (a b : Int) (w : World) (hm : RdM w V m) :
    Calls Try.prog 87 #[mapV V m, .int .i64 a, .int .i64 b] w (OkPost (Rises m a b) w) := by
  obtain ⟨W1, hW1⟩ : ∃ W1, W1 = w.alloc (.cells #[.slice V.N m.nodes.length V.n, .slice V.L m.lifts.length V.l, .slice V.R m.runs.length V.r, .slice V.B m.bases.length V.b] 27) := ⟨_, rfl⟩
  have hb1 : Below w.heap.size w W1 := by rw [hW1]; exact box_below _ _
  have hbox : mapBox W1 w.heap.size V.N V.L V.R V.B V.n V.l V.r V.b m := by rw [hW1]; exact mapBox_new _ _ _ _ _ _ _ _ _ _
  have hn := fun i W (h : Below W1.heap.size W1 W) => rnode_any V m i W ((hm.below hb1).below h)
  obtain ⟨N_, L_, R_, B_, nc, lc, rc, bc⟩ := V
  dsimp only at hbox hn hW1
  unfold mapV at hn
  dsimp only at hn
  have HB1 := Lib.hid hb1
  have HBOX := Lib.hid (fun W (h : Below W1.heap.size W1 W) => hbox.below h)
  have h1 := hn a W1 (Below.refl _ _)
  have h2 := hn b
  clear hm hb1 hbox hn
  unfold mapV
  dsimp only
  obtain ⟨x, okx, hx, hx1, hx2⟩ : ∃ (x : NodeM) (okx : Bool), nodeR m.nodes a = .tuple #[.agg #[.int .i64 x.id, .int .i64 x.alt], .bool okx] ∧ (okx = true → findNode m.nodes a = some x) ∧ (okx = false → findNode m.nodes a = none) := by
    unfold nodeR
    cases hf : findNode m.nodes a with
    | none => exact ⟨⟨0, 0⟩, false, rfl, (fun h => by cases h), fun _ => rfl⟩
    | some x => exact ⟨x, true, rfl, fun _ => rfl, (fun h => by cases h)⟩
  obtain ⟨y, oky, hy, hy1, hy2⟩ : ∃ (y : NodeM) (oky : Bool), nodeR m.nodes b = .tuple #[.agg #[.int .i64 y.id, .int .i64 y.alt], .bool oky] ∧ (oky = true → findNode m.nodes b = some y) ∧ (oky = false → findNode m.nodes b = none) := by
    unfold nodeR
    cases hf : findNode m.nodes b with
    | none => exact ⟨⟨0, 0⟩, false, rfl, (fun h => by cases h), fun _ => rfl⟩
    | some x => exact ⟨x, true, rfl, fun _ => rfl, (fun h => by cases h)⟩
  rw [hx] at h1
  rw [hy] at h2
  have H1 := Lib.hid h1
  have H2 := Lib.hid h2
  have HX1 := Lib.hid hx1
  have HY1 := Lib.hid hy1
  clear h1 h2 hx hy hx1 hx2 hy1 hy2
  go_enter Try.func87, Try.ntmps87
  rw [hW1] at H1
  go_wp2_with fail
  refine H1.out.mono ?_
  rw [← hW1]
  rintro e w2 ⟨rfl, hb2⟩
  have HB2 := Lib.hid (hb2.alloc hb2.size (.cells #[.int .i64 x.id, .int .i64 x.alt] 68))
  obtain ⟨q0, q1, q2, q3⟩ := HBOX.out _ HB2.out
  have H2' := Lib.hid (H2.out _ HB2.out)
  clear hb2 H1 H2 hW1
  go_wp2_with fail
  refine H2'.out.mono ?_
  rintro e w3 ⟨rfl, hb3⟩
  have HB3 := Lib.hid (below_in HB1.out ((below_in HB2.out hb3 HB2.out.size).alloc (by have h1 := (below_in HB2.out hb3 HB2.out.size).size; exact h1) (.cells #[.int .i64 y.id, .int .i64 y.alt] 68)) HB1.out.size)
  have z := (hb3.cell (p := ⟨w2.heap.size, 1, none⟩) (by simp)).trans (box_cell w2 #[.int .i64 x.id, .int .i64 x.alt] 68 1 _ rfl)
  have z2 := ((box_below w3 (.cells #[.int .i64 y.id, .int .i64 y.alt] 68)).cell (World.block_lt_of_cell? _ _ z)).trans z
  clear hb3 H2' q0 q1 q2 q3
  cases okx with
  | false =>
    go_wp2_with fail
    go_ret
    exact ⟨8, rfl, (fun h => by cases h), HB3.out⟩
  | true =>
    cases oky with
    | false =>
      go_wp2_with fail
      go_ret
      exact ⟨8, rfl, (fun h => by cases h), HB3.out⟩
    | true =>
      by_cases hle : y.alt ≤ x.alt
      · go_wp2_with fail
        go_ret
        exact ⟨11, rfl, (fun h => by cases h), HB3.out⟩
      · have HR := Lib.hid (show Rises m a b from ⟨x, y, HX1.out rfl, HY1.out rfl, by omega⟩)
        go_wp2_with fail
        go_ret
        exact ⟨0, rfl, fun _ => HR.out, HB3.out⟩
def BoolPost (w : World) (e : Ending) (w' : World) : Prop := ∃ b : Bool, e = .returned (.bool b) ∧ Below w.heap.size w w'
set_option maxRecDepth 100000 in
set_option maxHeartbeats 4000000 in
theorem rcarriers_any (x : LiftM) (hl : 10 ≤ x.len ∧ x.len ≤ 6000) (hs : 5 ≤ x.space ∧ x.space ≤ 1000) (w : World) :
    Calls Try.prog 88 #[.agg #[.int .i64 x.id, .int .i64 x.op, .int .i64 x.src, .int .i64 x.dst, .int .i64 x.len, .int .i64 x.speed, .int .i64 x.seats, .int .i64 x.space]] w (BoolPost w) := by
  obtain ⟨h1, h2⟩ := hl
  obtain ⟨h3, h4⟩ := hs
  have h5 : x.space ≠ 0 := by omega
  have h6 : (x.space == 0) = false := by simp; omega
  have HIN := Lib.hid (fun n lo hi W => rin_any n lo hi W)
  have HB := Lib.hid (box_below w (.cells #[.int .i64 x.id, .int .i64 x.op, .int .i64 x.src, .int .i64 x.dst, .int .i64 x.len, .int .i64 x.speed, .int .i64 x.seats, .int .i64 x.space] 92))
  have h7 : 0 ≤ 2 * x.len := by omega
  by_cases h8 : (2 * x.len) % x.space = 0
  · have h9 : ((2 * x.len) % x.space == 0) = true := by simp [h8]
    have h10 : (Int.tmod (2 * x.len) x.space == 0) = true := by rw [Int.tmod_eq_emod_of_nonneg h7]; exact h9
    clear h8
    go_enter Try.func88, Try.ntmps88
    go_wp2_with ((go_at_call 86; refine (HIN.out _ _ _ _).mono ?_; rintro e w1 ⟨rfl, rfl⟩))
    go_ret
    exact ⟨_, rfl, HB.out⟩
  · have h9 : ((2 * x.len) % x.space == 0) = false := by simp [h8]
    have h10 : (Int.tmod (2 * x.len) x.space == 0) = false := by rw [Int.tmod_eq_emod_of_nonneg h7]; exact h9
    clear h8
    go_enter Try.func88, Try.ntmps88
    go_wp2_with fail
    go_ret
    exact ⟨_, rfl, HB.out⟩
end Go.Proofs.Ytoeiongnjogpeaa
