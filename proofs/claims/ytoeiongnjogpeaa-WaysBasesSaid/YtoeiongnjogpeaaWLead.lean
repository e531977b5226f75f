/- Proved here: within, without and leads of the laws of chapter 11. Condition: the arguments read. -/
import Derived.Test.YtoeiongnjogpeaaWayTh
import Derived.Test.YtoeiongnjogpeaaLookRunW
namespace Go.Proofs.Ytoeiongnjogpeaa
open Go.RowKit
set_option maxRecDepth 100000 in
set_option maxHeartbeats 4000000 in
theorem within_any (A B : Option Addr) (c d : Nat) (a b : List Int) (w : World) (ha : RdI w A a) (hb : RdI w B b) (hsub : ∀ x ∈ a, x ∈ b) :
    Calls Try.prog 38 #[.slice A a.length c, .slice B b.length d] w fun e w' => e = .returned (.bool true) ∧ w = w' := by
  have hm := ha.1
  have HA := Lib.hid ha
  have HH := Lib.hid (fun x => has_any B d b x w hb)
  have HS := Lib.hid hsub
  clear ha hb hsub
  go_enter Try.func38, Try.ntmps38
  go_wp2_with fail
  go_loop [5] (fun i => ∃ k : Nat, k ≤ a.length ∧ i = .int .i64 k) (fun i => a.length - (intOf i).toNat)
  case atStart => exact ⟨0, Nat.zero_le _, rfl⟩
  case round =>
    obtain ⟨k, hk, rfl⟩ := hrel
    by_cases hlt : k < a.length
    · have i1 : ((k : Int) < (a.length : Int)) := by omega
      obtain ⟨ad, rfl⟩ := HA.out.addr hlt
      have x0 := HA.out.at_ (Below.refl _ _) hlt
      have hc := HH.out (numAt a k)
      rw [decide_eq_true (HS.out _ (numAt_mem hlt))] at hc
      have HC := Lib.hid hc
      clear hc
      go_wp2_with fail
      refine HC.out.mono ?_
      rintro e w1 ⟨rfl, rfl⟩
      go_wp2_with fail
      go_round
      case rel => exact ⟨k + 1, by omega, by go_num⟩
      case measure => simp [intOf]; omega
    · have i1 : ¬ ((k : Int) < (a.length : Int)) := by omega
      go_wp2_with fail
      go_ret
      exact ⟨rfl, rfl⟩
set_option maxRecDepth 100000 in
set_option maxHeartbeats 4000000 in
theorem lwithout_any (A : Option Addr) (c : Nat) (a : List Int) (q : Int) (w : World) (ha : RdI w A a) (hlen : a.length ≤ 100000) :
    Calls Try.prog 37 #[.slice A a.length c, .int .i64 q] w fun e w' => ∃ A' c', e = .returned (.slice A' (minusL a [q]).length c') ∧ RdI w' A' (minusL a [q]) ∧ Below w.heap.size w w' := by
  have hm := ha.1
  have HL := Lib.hid ha
  clear ha
  go_enter Try.func37, Try.ntmps37
  go_wp2_with fail
  go_loopw [5, 6] (fun ov i wr => ∃ k : Nat, k ≤ a.length ∧ i = .int .i64 k ∧ Hid (OwnI wr w.heap.size ov (minusL (a.take k) [q])) ∧ Hid (Below w.heap.size w wr)) (fun _ i _ => a.length - (intOf i).toNat)
  case atStart => exact ⟨0, Nat.zero_le _, rfl, OwnI.nil _ _, Below.refl _ _⟩
  case round =>
    obtain ⟨k, hk, rfl, HO, HB⟩ := hrel
    obtain ⟨A1, c1, rfl⟩ := HO.out.slice
    by_cases hlt : k < a.length
    · have i1 : ((k : Int) < (a.length : Int)) := by omega
      obtain ⟨ad, rfl⟩ := HL.out.addr hlt
      have x0 := HL.out.at_ HB.out hlt
      have hle : (minusL (a.take k) [q]).length ≤ 100000 := by
        have := minusL_len (a.take k) [q]
        rw [List.length_take] at this
        omega
      have HST := Lib.hid (minusL_take hlt [q])
      obtain ⟨out, hout⟩ : ∃ out, out = minusL (a.take k) [q] := ⟨_, rfl⟩
      rw [← hout] at HO HST hle ⊢
      clear hout
      by_cases hx : numAt a k = q
      · have t1 : (numAt a k != q) = false := by simp [hx]
        have HT := Lib.hid (show minusL (a.take (k + 1)) [q] = out by rw [HST.out, if_pos (by simp [hx]), List.append_nil])
        clear hx
        go_wp2_with fail
        go_roundw
        case rel => exact ⟨k + 1, by omega, by go_num, by rw [HT.out]; exact HO.out, HB.out⟩
        case measure => simp [intOf]; omega
      · have t1 : (numAt a k != q) = true := by simp [hx]
        have HT := Lib.hid (show minusL (a.take (k + 1)) [q] = out ++ [numAt a k] by rw [HST.out, if_neg (by simp [hx])])
        clear hx
        go_wp2_with (at_builtin; go_must (refine wp_appI rfl _ _ rfl w wr (.slice A1 out.length c1) out (numAt a k) rfl rfl HO.out (by omega) HB.out ?_); intro A3 c3 w3 HO3 HB3)
        go_roundw
        case rel => exact ⟨k + 1, by omega, by go_num, by rw [HT.out]; exact HO3.out, HB3.out⟩
        case measure => simp [intOf]; omega
    · have hkl : k = a.length := by omega
      subst hkl
      rw [List.take_length] at HO
      have i1 : ¬ ((a.length : Int) < (a.length : Int)) := by omega
      go_wp2_with fail
      go_ret
      exact ⟨A1, ⟨_, rfl⟩, HO.out.rdI, HB.out⟩
def leadR (x : OpenM) (p : List Int) (u : Int) : Int × Bool := match walkF (downL x.m.runs x.runs) p 0 u with
  | none => (0, false)
  | some (n, b) => (n, decide (b ∈ x.m.bases))
theorem walkF_down_no {l : List RunM} {ids r : List Int} {pk n y : Int} (h : ∀ e, findRun l pk = some e → pk ∈ ids → e.src ≠ y) : walkF (downL l ids) (pk :: r) n y = none := by
  rw [walkF_cons, findE_down]
  by_cases hi : pk ∈ ids
  · rw [if_pos hi]
    cases hf : findRun l pk with
    | none => rfl
    | some e =>
      have hs := h e hf hi
      have e1 : Option.map runE (some e) = some (runE e) := rfl
      rw [e1]
      dsimp only
      rw [if_neg (by unfold runE; exact hs)]
  · rw [if_neg hi]
theorem walkF_down_yes {l : List RunM} {ids r : List Int} {pk n y : Int} {e : RunM} (hf : findRun l pk = some e) (hi : pk ∈ ids) (hs : e.src = y) : walkF (downL l ids) (pk :: r) n y = walkF (downL l ids) r (n + e.len) e.dst := by
  rw [walkF_cons, findE_down, if_pos hi, hf]
  have e1 : Option.map runE (some e) = some (runE e) := rfl
  rw [e1]
  dsimp only
  rw [if_pos (by unfold runE; exact hs)]
  rfl
theorem lead_none {x : OpenM} {p : List Int} {u : Int} (h : walkF (downL x.m.runs x.runs) p 0 u = none) : leadR x p u = (0, false) := by
  unfold leadR
  rw [h]
theorem runCs_some {l : List RunM} {i : Int} {e : RunM} (h : findRun l i = some e) : runCs l i = #[.int .i64 e.id, .int .i64 e.op, .int .i64 e.src, .int .i64 e.dst, .int .i64 e.grade, .int .i64 e.zone, .int .i64 e.len] := by unfold runCs; rw [h]
theorem runCs_none {l : List RunM} {i : Int} (h : findRun l i = none) : runCs l i = #[.int .i64 0, .int .i64 0, .int .i64 0, .int .i64 0, .int .i64 0, .int .i64 0, .int .i64 0] := by unfold runCs; rw [h]
set_option maxRecDepth 100000 in
set_option maxHeartbeats 8000000 in
theorem leads_any (V : OpenA) (x : OpenM) (ok : MapOk x.m) (P : Option Addr) (pc : Nat) (p : List Int) (u : Int) (w : World) (hx : RdO w V x) (hp : RdI w P p) (hlen : p.length ≤ 1000) :
    Calls Try.prog 36 #[openV V x, .slice P p.length pc, .int .i64 u] w fun e w' => e = .returned (.tuple #[.int .i64 (leadR x p u).1, .bool (leadR x p u).2]) ∧ Below w.heap.size w w' := by
  obtain ⟨W1, hW1⟩ : ∃ W1, W1 = w.alloc (.cells #[.slice V.V.N x.m.nodes.length V.V.n, .slice V.V.L x.m.lifts.length V.V.l, .slice V.V.R x.m.runs.length V.V.r, .slice V.V.B x.m.bases.length V.V.b, .slice V.lifts x.lifts.length V.lc, .slice V.runs x.runs.length V.rc] 52) := ⟨_, rfl⟩
  have hb1 : Below w.heap.size w W1 := by rw [hW1]; exact box_below _ _
  have hbox : openBox W1 w.heap.size V.V.N V.V.L V.V.R V.V.B V.lifts V.runs V.V.n V.V.l V.V.r V.V.b V.lc V.rc x := by rw [hW1]; exact openBox_new _ _ _ _ _ _ _ _ _ _ _ _ _ _
  have hr := fun i W (h : Below W1.heap.size W1 W) => rrun_w V.V x.m i W ((hx.m.below hb1).below h)
  have hh := fun i W (h : Below W1.heap.size W1 W) => has_any V.runs V.rc x.runs i W ((hx.runs.below hb1).below h)
  have hk := fun i W (h : Below W1.heap.size W1 W) => has_any V.V.B V.V.b x.m.bases i W ((hx.m.bases.below hb1).below h)
  have hP : RdI W1 P p := hp.below hb1
  have hm := hp.1
  obtain ⟨⟨N_, L_, R_, B_, nc, lc, rc, bc⟩, F_, G_, fc, gc⟩ := V
  dsimp only at hbox hr hh hk hW1
  unfold mapV at hr
  dsimp only at hr
  have HR := Lib.hid hr
  have HH := Lib.hid hh
  have HK := Lib.hid hk
  have HP := Lib.hid hP
  have HBOX := Lib.hid (fun W (h : Below W1.heap.size W1 W) => hbox.below h)
  have HB1 := Lib.hid hb1
  have HOK := Lib.hid ok
  clear hx hp hr hh hk hP hbox hb1 ok
  unfold openV
  dsimp only
  go_enter Try.func36, Try.ntmps36
  go_wp2_with fail
  rw [← hW1]
  clear hW1
  go_loopw [2, 8, 9] (fun uv nv iv wr => ∃ (k : Nat) (n y : Int), k ≤ p.length ∧ iv = .int .i64 k ∧ nv = .int .i64 n ∧ uv = .int .i64 y ∧ 0 ≤ n ∧ n ≤ k * 20000 ∧ Hid (walkF (downL x.m.runs x.runs) (p.drop k) n y = walkF (downL x.m.runs x.runs) p 0 u) ∧ Hid (Below W1.heap.size W1 wr)) (fun _ _ iv _ => p.length - (intOf iv).toNat)
  case atStart => exact ⟨0, 0, u, Nat.zero_le _, rfl, rfl, rfl, by omega, by omega, rfl, Below.refl _ _⟩
  case round =>
    obtain ⟨k, n, y, hk, rfl, rfl, rfl, hn0, hn1, HI, HB⟩ := hrel
    obtain ⟨q0, q1, q2, q3, q4, q5⟩ := HBOX.out wr HB.out
    by_cases hlt : k < p.length
    · have i1 : ((k : Int) < (p.length : Int)) := by omega
      obtain ⟨a, rfl⟩ := HP.out.addr hlt
      obtain ⟨pk, hpk⟩ : ∃ pk, pk = numAt p k := ⟨_, rfl⟩
      have HCK := Lib.hid (fun W (h : Below W1.heap.size W1 W) => (⟨(HBOX.out W h).1, (HBOX.out W h).2.1, (HBOX.out W h).2.2.1, (HBOX.out W h).2.2.2.1, (HBOX.out W h).2.2.2.2.2, by rw [hpk]; exact HP.out.at_ h hlt⟩ : W.cell? ⟨w.heap.size, 0, none⟩ = some (.slice N_ x.m.nodes.length nc) ∧ W.cell? ⟨w.heap.size, 1, none⟩ = some (.slice L_ x.m.lifts.length lc) ∧ W.cell? ⟨w.heap.size, 2, none⟩ = some (.slice R_ x.m.runs.length rc) ∧ W.cell? ⟨w.heap.size, 3, none⟩ = some (.slice B_ x.m.bases.length bc) ∧ W.cell? ⟨w.heap.size, 5, none⟩ = some (.slice G_ x.runs.length gc) ∧ W.cell? (a.add k) = some (.int .i64 pk)))
      have HST := Lib.hid (show walkF (downL x.m.runs x.runs) p 0 u = walkF (downL x.m.runs x.runs) (pk :: p.drop (k + 1)) n y by rw [← HI.out, drop_num hlt, hpk])
      have HR1 := Lib.hid (HR.out pk)
      clear hpk
      have hb0 : Hid (Below W1.heap.size W1 wr) := HB.out
      have hb2 : Hid (Below W1.heap.size W1 wr.drew) := HB.out.drew
      cases hf : findRun x.m.runs pk with
      | none =>
        have hr1 := HR1.out
        unfold runR at hr1
        rw [hf] at hr1
        simp only [runCs_none hf] at hr1
        have HF := Lib.hid hf
        obtain ⟨e0, he0⟩ : ∃ e0 : RunM, e0 = ⟨0, 0, 0, 0, 0, 0, 0⟩ := ⟨_, rfl⟩
        have hr1 : ∀ (W : World), Below W1.heap.size W1 W → Calls Try.prog 15 #[.agg #[.slice N_ x.m.nodes.length nc, .slice L_ x.m.lifts.length lc, .slice R_ x.m.runs.length rc, .slice B_ x.m.bases.length bc], .int .i64 pk] W fun e w' => e = .returned (.tuple #[.agg #[.int .i64 e0.id, .int .i64 e0.op, .int .i64 e0.src, .int .i64 e0.dst, .int .i64 e0.grade, .int .i64 e0.zone, .int .i64 e0.len], .bool false]) ∧ (W.alloc (.cells #[.slice N_ x.m.nodes.length nc, .slice L_ x.m.lifts.length lc, .slice R_ x.m.runs.length rc, .slice B_ x.m.bases.length bc] 27)).alloc (.cells #[.int .i64 e0.id, .int .i64 e0.op, .int .i64 e0.src, .int .i64 e0.dst, .int .i64 e0.grade, .int .i64 e0.zone, .int .i64 e0.len] 37) = w' := by
          rw [he0]
          exact hr1
        clear he0
        have HR2 := Lib.hid hr1
        clear hr1 HR1 hf
        go_wp2_with fail
        clear q0 q1 q2 q3 q4 q5
        go_region_held3 (fun W : World => W.cell? ⟨w.heap.size, 0, none⟩ = some (.slice N_ x.m.nodes.length nc) ∧ W.cell? ⟨w.heap.size, 1, none⟩ = some (.slice L_ x.m.lifts.length lc) ∧ W.cell? ⟨w.heap.size, 2, none⟩ = some (.slice R_ x.m.runs.length rc) ∧ W.cell? ⟨w.heap.size, 3, none⟩ = some (.slice B_ x.m.bases.length bc) ∧ W.cell? ⟨w.heap.size, 5, none⟩ = some (.slice G_ x.runs.length gc) ∧ W.cell? (a.add k) = some (.int .i64 pk))
          (first | exact HCK.out _ hb0.out | exact HCK.out _ hb2.out | exact HCK.out _ (hb2.out.alloc hb2.out.size _) | exact HCK.out _ (below_go (below_go hb2.out (box_below _ _)) (box_below _ _)) | exact HCK.out _ (below_go (below_go (below_go hb2.out (box_below _ _)) (box_below _ _)) (box_below _ _)))
          (first | (go_at_call 15; refine (HR2.out _ (by first | exact hb0.out | exact hb2.out | exact below_go hb2.out (box_below _ _))).mono ?_; rintro e w8 ⟨rfl, rfl⟩))
        · obtain ⟨W5, hW5⟩ : ∃ W5, W5 = (((wr.alloc (.cells #[.slice N_ x.m.nodes.length nc, .slice L_ x.m.lifts.length lc, .slice R_ x.m.runs.length rc, .slice B_ x.m.bases.length bc] 27)).alloc (.cells #[.int .i64 e0.id, .int .i64 e0.op, .int .i64 e0.src, .int .i64 e0.dst, .int .i64 e0.grade, .int .i64 e0.zone, .int .i64 e0.len] 37)).alloc (.cells #[.int .i64 e0.id, .int .i64 e0.op, .int .i64 e0.src, .int .i64 e0.dst, .int .i64 e0.grade, .int .i64 e0.zone, .int .i64 e0.len] 37)).drew := ⟨_, rfl⟩
          obtain ⟨H5, hH5⟩ : ∃ H5, H5 = wr.heap.size + 1 + 1 := ⟨_, rfl⟩
          have hb5 : Below W1.heap.size W1 W5 := by rw [hW5]; exact (below_go (below_go (below_go hb0.out (box_below _ _)) (box_below _ _)) (box_below _ _)).drew
          have c2 : W5.cell? ⟨H5, 2, none⟩ = some (.int .i64 e0.src) := by
              rw [hW5, hH5]
              have h := box_cell ((wr.alloc (.cells #[.slice N_ x.m.nodes.length nc, .slice L_ x.m.lifts.length lc, .slice R_ x.m.runs.length rc, .slice B_ x.m.bases.length bc] 27)).alloc (.cells #[.int .i64 e0.id, .int .i64 e0.op, .int .i64 e0.src, .int .i64 e0.dst, .int .i64 e0.grade, .int .i64 e0.zone, .int .i64 e0.len] 37)) #[.int .i64 e0.id, .int .i64 e0.op, .int .i64 e0.src, .int .i64 e0.dst, .int .i64 e0.grade, .int .i64 e0.zone, .int .i64 e0.len] 37 2 _ rfl
              have e1 : ((wr.alloc (.cells #[.slice N_ x.m.nodes.length nc, .slice L_ x.m.lifts.length lc, .slice R_ x.m.runs.length rc, .slice B_ x.m.bases.length bc] 27)).alloc (.cells #[.int .i64 e0.id, .int .i64 e0.op, .int .i64 e0.src, .int .i64 e0.dst, .int .i64 e0.grade, .int .i64 e0.zone, .int .i64 e0.len] 37)).heap.size = wr.heap.size + 1 + 1  := by simp
              rw [e1] at h
              exact h
          have c3 : W5.cell? ⟨H5, 3, none⟩ = some (.int .i64 e0.dst) := by
              rw [hW5, hH5]
              have h := box_cell ((wr.alloc (.cells #[.slice N_ x.m.nodes.length nc, .slice L_ x.m.lifts.length lc, .slice R_ x.m.runs.length rc, .slice B_ x.m.bases.length bc] 27)).alloc (.cells #[.int .i64 e0.id, .int .i64 e0.op, .int .i64 e0.src, .int .i64 e0.dst, .int .i64 e0.grade, .int .i64 e0.zone, .int .i64 e0.len] 37)) #[.int .i64 e0.id, .int .i64 e0.op, .int .i64 e0.src, .int .i64 e0.dst, .int .i64 e0.grade, .int .i64 e0.zone, .int .i64 e0.len] 37 3 _ rfl
              have e1 : ((wr.alloc (.cells #[.slice N_ x.m.nodes.length nc, .slice L_ x.m.lifts.length lc, .slice R_ x.m.runs.length rc, .slice B_ x.m.bases.length bc] 27)).alloc (.cells #[.int .i64 e0.id, .int .i64 e0.op, .int .i64 e0.src, .int .i64 e0.dst, .int .i64 e0.grade, .int .i64 e0.zone, .int .i64 e0.len] 37)).heap.size = wr.heap.size + 1 + 1  := by simp
              rw [e1] at h
              exact h
          have c6 : W5.cell? ⟨H5, 6, none⟩ = some (.int .i64 e0.len) := by
              rw [hW5, hH5]
              have h := box_cell ((wr.alloc (.cells #[.slice N_ x.m.nodes.length nc, .slice L_ x.m.lifts.length lc, .slice R_ x.m.runs.length rc, .slice B_ x.m.bases.length bc] 27)).alloc (.cells #[.int .i64 e0.id, .int .i64 e0.op, .int .i64 e0.src, .int .i64 e0.dst, .int .i64 e0.grade, .int .i64 e0.zone, .int .i64 e0.len] 37)) #[.int .i64 e0.id, .int .i64 e0.op, .int .i64 e0.src, .int .i64 e0.dst, .int .i64 e0.grade, .int .i64 e0.zone, .int .i64 e0.len] 37 6 _ rfl
              have e1 : ((wr.alloc (.cells #[.slice N_ x.m.nodes.length nc, .slice L_ x.m.lifts.length lc, .slice R_ x.m.runs.length rc, .slice B_ x.m.bases.length bc] 27)).alloc (.cells #[.int .i64 e0.id, .int .i64 e0.op, .int .i64 e0.src, .int .i64 e0.dst, .int .i64 e0.grade, .int .i64 e0.zone, .int .i64 e0.len] 37)).heap.size = wr.heap.size + 1 + 1  := by simp
              rw [e1] at h
              exact h
          rw [← hW5]
          rw [← hH5]
          have HB5 := Lib.hid hb5
          clear hb5 hW5 hH5
          have HRS := Lib.hid (lead_none (HST.out.trans (walkF_down_no fun e he => by rw [HF.out] at he; cases he)))
          obtain ⟨p0, p1, p2, p3, p4, p5⟩ := HCK.out W5 HB5.out
          go_wp2_with fail
          go_big_quiet (fail)
          go_wp2_with fail
          go_ret2
          exact ⟨by rw [HRS.out]; rfl, below_in HB1.out (below_drewN HB5.out _) HB1.out.size⟩
        · obtain ⟨W5, hW5⟩ : ∃ W5, W5 = (((wr.alloc (.cells #[.int .i64 e0.id, .int .i64 e0.op, .int .i64 e0.src, .int .i64 e0.dst, .int .i64 e0.grade, .int .i64 e0.zone, .int .i64 e0.len] 37)).alloc (.cells #[.slice N_ x.m.nodes.length nc, .slice L_ x.m.lifts.length lc, .slice R_ x.m.runs.length rc, .slice B_ x.m.bases.length bc] 27)).alloc (.cells #[.int .i64 e0.id, .int .i64 e0.op, .int .i64 e0.src, .int .i64 e0.dst, .int .i64 e0.grade, .int .i64 e0.zone, .int .i64 e0.len] 37)).drew := ⟨_, rfl⟩
          obtain ⟨H5, hH5⟩ : ∃ H5, H5 = wr.heap.size := ⟨_, rfl⟩
          have hb5 : Below W1.heap.size W1 W5 := by rw [hW5]; exact (below_go (below_go (below_go hb0.out (box_below _ _)) (box_below _ _)) (box_below _ _)).drew
          have c2 : W5.cell? ⟨H5, 2, none⟩ = some (.int .i64 e0.src) := by
              rw [hW5, hH5]
              have h := box_cell wr #[.int .i64 e0.id, .int .i64 e0.op, .int .i64 e0.src, .int .i64 e0.dst, .int .i64 e0.grade, .int .i64 e0.zone, .int .i64 e0.len] 37 2 _ rfl
              have h1 := ((box_below (wr.alloc (.cells #[.int .i64 e0.id, .int .i64 e0.op, .int .i64 e0.src, .int .i64 e0.dst, .int .i64 e0.grade, .int .i64 e0.zone, .int .i64 e0.len] 37)) (.cells #[.slice N_ x.m.nodes.length nc, .slice L_ x.m.lifts.length lc, .slice R_ x.m.runs.length rc, .slice B_ x.m.bases.length bc] 27)).cell (World.block_lt_of_cell? _ _ h)).trans h
              exact ((box_below _ _).cell (World.block_lt_of_cell? _ _ h1)).trans h1
          have c3 : W5.cell? ⟨H5, 3, none⟩ = some (.int .i64 e0.dst) := by
              rw [hW5, hH5]
              have h := box_cell wr #[.int .i64 e0.id, .int .i64 e0.op, .int .i64 e0.src, .int .i64 e0.dst, .int .i64 e0.grade, .int .i64 e0.zone, .int .i64 e0.len] 37 3 _ rfl
              have h1 := ((box_below (wr.alloc (.cells #[.int .i64 e0.id, .int .i64 e0.op, .int .i64 e0.src, .int .i64 e0.dst, .int .i64 e0.grade, .int .i64 e0.zone, .int .i64 e0.len] 37)) (.cells #[.slice N_ x.m.nodes.length nc, .slice L_ x.m.lifts.length lc, .slice R_ x.m.runs.length rc, .slice B_ x.m.bases.length bc] 27)).cell (World.block_lt_of_cell? _ _ h)).trans h
              exact ((box_below _ _).cell (World.block_lt_of_cell? _ _ h1)).trans h1
          have c6 : W5.cell? ⟨H5, 6, none⟩ = some (.int .i64 e0.len) := by
              rw [hW5, hH5]
              have h := box_cell wr #[.int .i64 e0.id, .int .i64 e0.op, .int .i64 e0.src, .int .i64 e0.dst, .int .i64 e0.grade, .int .i64 e0.zone, .int .i64 e0.len] 37 6 _ rfl
              have h1 := ((box_below (wr.alloc (.cells #[.int .i64 e0.id, .int .i64 e0.op, .int .i64 e0.src, .int .i64 e0.dst, .int .i64 e0.grade, .int .i64 e0.zone, .int .i64 e0.len] 37)) (.cells #[.slice N_ x.m.nodes.length nc, .slice L_ x.m.lifts.length lc, .slice R_ x.m.runs.length rc, .slice B_ x.m.bases.length bc] 27)).cell (World.block_lt_of_cell? _ _ h)).trans h
              exact ((box_below _ _).cell (World.block_lt_of_cell? _ _ h1)).trans h1
          rw [← hW5]
          have HH5 := Lib.hid hH5
          have HB5 := Lib.hid hb5
          clear hb5 hW5
          rw [hH5] at c2 c3 c6
          clear hH5 HH5
          have HRS := Lib.hid (lead_none (HST.out.trans (walkF_down_no fun e he => by rw [HF.out] at he; cases he)))
          obtain ⟨p0, p1, p2, p3, p4, p5⟩ := HCK.out W5 HB5.out
          go_wp2_with fail
          go_big_quiet (fail)
          go_wp2_with fail
          go_ret2
          exact ⟨by rw [HRS.out]; rfl, below_in HB1.out (below_drewN HB5.out _) HB1.out.size⟩
      | some e0 =>
        have hr1 := HR1.out
        unfold runR at hr1
        rw [hf] at hr1
        simp only [runCs_some hf] at hr1
        have HF := Lib.hid hf
        have HR2 := Lib.hid hr1
        clear hr1 HR1 hf
        go_wp2_with fail
        clear q0 q1 q2 q3 q4 q5
        go_region_held3 (fun W : World => W.cell? ⟨w.heap.size, 0, none⟩ = some (.slice N_ x.m.nodes.length nc) ∧ W.cell? ⟨w.heap.size, 1, none⟩ = some (.slice L_ x.m.lifts.length lc) ∧ W.cell? ⟨w.heap.size, 2, none⟩ = some (.slice R_ x.m.runs.length rc) ∧ W.cell? ⟨w.heap.size, 3, none⟩ = some (.slice B_ x.m.bases.length bc) ∧ W.cell? ⟨w.heap.size, 5, none⟩ = some (.slice G_ x.runs.length gc) ∧ W.cell? (a.add k) = some (.int .i64 pk))
          (first | exact HCK.out _ hb0.out | exact HCK.out _ hb2.out | exact HCK.out _ (hb2.out.alloc hb2.out.size _) | exact HCK.out _ (below_go (below_go hb2.out (box_below _ _)) (box_below _ _)) | exact HCK.out _ (below_go (below_go (below_go hb2.out (box_below _ _)) (box_below _ _)) (box_below _ _)))
          (first | (go_at_call 15; refine (HR2.out _ (by first | exact hb0.out | exact hb2.out | exact below_go hb2.out (box_below _ _))).mono ?_; rintro e w8 ⟨rfl, rfl⟩))
        · obtain ⟨W5, hW5⟩ : ∃ W5, W5 = (((wr.alloc (.cells #[.slice N_ x.m.nodes.length nc, .slice L_ x.m.lifts.length lc, .slice R_ x.m.runs.length rc, .slice B_ x.m.bases.length bc] 27)).alloc (.cells #[.int .i64 e0.id, .int .i64 e0.op, .int .i64 e0.src, .int .i64 e0.dst, .int .i64 e0.grade, .int .i64 e0.zone, .int .i64 e0.len] 37)).alloc (.cells #[.int .i64 e0.id, .int .i64 e0.op, .int .i64 e0.src, .int .i64 e0.dst, .int .i64 e0.grade, .int .i64 e0.zone, .int .i64 e0.len] 37)).drew := ⟨_, rfl⟩
          obtain ⟨H5, hH5⟩ : ∃ H5, H5 = wr.heap.size + 1 + 1 := ⟨_, rfl⟩
          have hb5 : Below W1.heap.size W1 W5 := by rw [hW5]; exact (below_go (below_go (below_go hb0.out (box_below _ _)) (box_below _ _)) (box_below _ _)).drew
          have c2 : W5.cell? ⟨H5, 2, none⟩ = some (.int .i64 e0.src) := by
              rw [hW5, hH5]
              have h := box_cell ((wr.alloc (.cells #[.slice N_ x.m.nodes.length nc, .slice L_ x.m.lifts.length lc, .slice R_ x.m.runs.length rc, .slice B_ x.m.bases.length bc] 27)).alloc (.cells #[.int .i64 e0.id, .int .i64 e0.op, .int .i64 e0.src, .int .i64 e0.dst, .int .i64 e0.grade, .int .i64 e0.zone, .int .i64 e0.len] 37)) #[.int .i64 e0.id, .int .i64 e0.op, .int .i64 e0.src, .int .i64 e0.dst, .int .i64 e0.grade, .int .i64 e0.zone, .int .i64 e0.len] 37 2 _ rfl
              have e1 : ((wr.alloc (.cells #[.slice N_ x.m.nodes.length nc, .slice L_ x.m.lifts.length lc, .slice R_ x.m.runs.length rc, .slice B_ x.m.bases.length bc] 27)).alloc (.cells #[.int .i64 e0.id, .int .i64 e0.op, .int .i64 e0.src, .int .i64 e0.dst, .int .i64 e0.grade, .int .i64 e0.zone, .int .i64 e0.len] 37)).heap.size = wr.heap.size + 1 + 1  := by simp
              rw [e1] at h
              exact h
          have c3 : W5.cell? ⟨H5, 3, none⟩ = some (.int .i64 e0.dst) := by
              rw [hW5, hH5]
              have h := box_cell ((wr.alloc (.cells #[.slice N_ x.m.nodes.length nc, .slice L_ x.m.lifts.length lc, .slice R_ x.m.runs.length rc, .slice B_ x.m.bases.length bc] 27)).alloc (.cells #[.int .i64 e0.id, .int .i64 e0.op, .int .i64 e0.src, .int .i64 e0.dst, .int .i64 e0.grade, .int .i64 e0.zone, .int .i64 e0.len] 37)) #[.int .i64 e0.id, .int .i64 e0.op, .int .i64 e0.src, .int .i64 e0.dst, .int .i64 e0.grade, .int .i64 e0.zone, .int .i64 e0.len] 37 3 _ rfl
              have e1 : ((wr.alloc (.cells #[.slice N_ x.m.nodes.length nc, .slice L_ x.m.lifts.length lc, .slice R_ x.m.runs.length rc, .slice B_ x.m.bases.length bc] 27)).alloc (.cells #[.int .i64 e0.id, .int .i64 e0.op, .int .i64 e0.src, .int .i64 e0.dst, .int .i64 e0.grade, .int .i64 e0.zone, .int .i64 e0.len] 37)).heap.size = wr.heap.size + 1 + 1  := by simp
              rw [e1] at h
              exact h
          have c6 : W5.cell? ⟨H5, 6, none⟩ = some (.int .i64 e0.len) := by
              rw [hW5, hH5]
              have h := box_cell ((wr.alloc (.cells #[.slice N_ x.m.nodes.length nc, .slice L_ x.m.lifts.length lc, .slice R_ x.m.runs.length rc, .slice B_ x.m.bases.length bc] 27)).alloc (.cells #[.int .i64 e0.id, .int .i64 e0.op, .int .i64 e0.src, .int .i64 e0.dst, .int .i64 e0.grade, .int .i64 e0.zone, .int .i64 e0.len] 37)) #[.int .i64 e0.id, .int .i64 e0.op, .int .i64 e0.src, .int .i64 e0.dst, .int .i64 e0.grade, .int .i64 e0.zone, .int .i64 e0.len] 37 6 _ rfl
              have e1 : ((wr.alloc (.cells #[.slice N_ x.m.nodes.length nc, .slice L_ x.m.lifts.length lc, .slice R_ x.m.runs.length rc, .slice B_ x.m.bases.length bc] 27)).alloc (.cells #[.int .i64 e0.id, .int .i64 e0.op, .int .i64 e0.src, .int .i64 e0.dst, .int .i64 e0.grade, .int .i64 e0.zone, .int .i64 e0.len] 37)).heap.size = wr.heap.size + 1 + 1  := by simp
              rw [e1] at h
              exact h
          rw [← hW5]
          rw [← hH5]
          have HB5 := Lib.hid hb5
          clear hb5 hW5 hH5
          obtain ⟨p0, p1, p2, p3, p4, p5⟩ := HCK.out W5 HB5.out
          by_cases hsy : e0.src = y
          · have t1 : (e0.src != y) = false := by simp [hsy]
            by_cases hin : pk ∈ x.runs
            · have hq := fun n => (HH.out pk (W5.drewN n) (below_drewN HB5.out n)).mono (fun e w' (h : e = .returned (.bool (decide (pk ∈ x.runs))) ∧ W5.drewN n = w') => (⟨by rw [h.1, decide_eq_true hin], h.2.symm⟩ : e = .returned (.bool true) ∧ w' = W5.drewN n))
              have HQ := Lib.hid hq
              have HN := Lib.hid (show walkF (downL x.m.runs x.runs) (p.drop (k + 1)) (n + e0.len) e0.dst = walkF (downL x.m.runs x.runs) p 0 u by rw [HST.out, walkF_down_yes HF.out hin hsy])
              have hlb := (HOK.out.run (findRun_some HF.out).1).2.2
              clear hq hsy hin
              go_wp2_with fail
              go_big_quiet ((go_at_call 35; refine Calls.quiet_of_same (HQ.out _)))
              go_wp2_with fail
              have W_ : IntKind.i64.wrap (n + e0.len) = n + e0.len := IntWalk.i64_in _ (by omega)
              go_big_quiet (fail)
              clear W_
              go_wp2_with fail
              go_roundw
              case rel => exact ⟨k + 1, n + e0.len, e0.dst, by omega, by go_num, rfl, rfl, by omega, by omega, HN.out, by first | exact below_drewN (below_drewN HB5.out _) _ | exact below_drewN HB5.out _⟩
              case measure => simp [intOf]; omega
            · have hq := fun n => (HH.out pk (W5.drewN n) (below_drewN HB5.out n)).mono (fun e w' (h : e = .returned (.bool (decide (pk ∈ x.runs))) ∧ W5.drewN n = w') => (⟨by rw [h.1, decide_eq_false hin], h.2.symm⟩ : e = .returned (.bool false) ∧ w' = W5.drewN n))
              have HQ := Lib.hid hq
              have HRS := Lib.hid (lead_none (HST.out.trans (walkF_down_no fun _ _ h => absurd h hin)))
              clear hq hsy hin
              go_wp2_with fail
              go_big_quiet ((go_at_call 35; refine Calls.quiet_of_same (HQ.out _)))
              go_wp2_with fail
              go_ret2
              exact ⟨by rw [HRS.out]; rfl, below_in HB1.out (below_drewN HB5.out _) HB1.out.size⟩
          · have t1 : (e0.src != y) = true := by simp [hsy]
            have HRS := Lib.hid (lead_none (HST.out.trans (walkF_down_no fun e he _ => by rw [HF.out] at he; cases he; exact hsy)))
            clear hsy
            go_wp2_with fail
            go_big_quiet (fail)
            go_wp2_with fail
            go_ret2
            exact ⟨by rw [HRS.out]; rfl, below_in HB1.out (below_drewN HB5.out _) HB1.out.size⟩
        · obtain ⟨W5, hW5⟩ : ∃ W5, W5 = (((wr.alloc (.cells #[.int .i64 e0.id, .int .i64 e0.op, .int .i64 e0.src, .int .i64 e0.dst, .int .i64 e0.grade, .int .i64 e0.zone, .int .i64 e0.len] 37)).alloc (.cells #[.slice N_ x.m.nodes.length nc, .slice L_ x.m.lifts.length lc, .slice R_ x.m.runs.length rc, .slice B_ x.m.bases.length bc] 27)).alloc (.cells #[.int .i64 e0.id, .int .i64 e0.op, .int .i64 e0.src, .int .i64 e0.dst, .int .i64 e0.grade, .int .i64 e0.zone, .int .i64 e0.len] 37)).drew := ⟨_, rfl⟩
          obtain ⟨H5, hH5⟩ : ∃ H5, H5 = wr.heap.size := ⟨_, rfl⟩
          have hb5 : Below W1.heap.size W1 W5 := by rw [hW5]; exact (below_go (below_go (below_go hb0.out (box_below _ _)) (box_below _ _)) (box_below _ _)).drew
          have c2 : W5.cell? ⟨H5, 2, none⟩ = some (.int .i64 e0.src) := by
              rw [hW5, hH5]
              have h := box_cell wr #[.int .i64 e0.id, .int .i64 e0.op, .int .i64 e0.src, .int .i64 e0.dst, .int .i64 e0.grade, .int .i64 e0.zone, .int .i64 e0.len] 37 2 _ rfl
              have h1 := ((box_below (wr.alloc (.cells #[.int .i64 e0.id, .int .i64 e0.op, .int .i64 e0.src, .int .i64 e0.dst, .int .i64 e0.grade, .int .i64 e0.zone, .int .i64 e0.len] 37)) (.cells #[.slice N_ x.m.nodes.length nc, .slice L_ x.m.lifts.length lc, .slice R_ x.m.runs.length rc, .slice B_ x.m.bases.length bc] 27)).cell (World.block_lt_of_cell? _ _ h)).trans h
              exact ((box_below _ _).cell (World.block_lt_of_cell? _ _ h1)).trans h1
          have c3 : W5.cell? ⟨H5, 3, none⟩ = some (.int .i64 e0.dst) := by
              rw [hW5, hH5]
              have h := box_cell wr #[.int .i64 e0.id, .int .i64 e0.op, .int .i64 e0.src, .int .i64 e0.dst, .int .i64 e0.grade, .int .i64 e0.zone, .int .i64 e0.len] 37 3 _ rfl
              have h1 := ((box_below (wr.alloc (.cells #[.int .i64 e0.id, .int .i64 e0.op, .int .i64 e0.src, .int .i64 e0.dst, .int .i64 e0.grade, .int .i64 e0.zone, .int .i64 e0.len] 37)) (.cells #[.slice N_ x.m.nodes.length nc, .slice L_ x.m.lifts.length lc, .slice R_ x.m.runs.length rc, .slice B_ x.m.bases.length bc] 27)).cell (World.block_lt_of_cell? _ _ h)).trans h
              exact ((box_below _ _).cell (World.block_lt_of_cell? _ _ h1)).trans h1
          have c6 : W5.cell? ⟨H5, 6, none⟩ = some (.int .i64 e0.len) := by
              rw [hW5, hH5]
              have h := box_cell wr #[.int .i64 e0.id, .int .i64 e0.op, .int .i64 e0.src, .int .i64 e0.dst, .int .i64 e0.grade, .int .i64 e0.zone, .int .i64 e0.len] 37 6 _ rfl
              have h1 := ((box_below (wr.alloc (.cells #[.int .i64 e0.id, .int .i64 e0.op, .int .i64 e0.src, .int .i64 e0.dst, .int .i64 e0.grade, .int .i64 e0.zone, .int .i64 e0.len] 37)) (.cells #[.slice N_ x.m.nodes.length nc, .slice L_ x.m.lifts.length lc, .slice R_ x.m.runs.length rc, .slice B_ x.m.bases.length bc] 27)).cell (World.block_lt_of_cell? _ _ h)).trans h
              exact ((box_below _ _).cell (World.block_lt_of_cell? _ _ h1)).trans h1
          rw [← hW5]
          have HH5 := Lib.hid hH5
          have HB5 := Lib.hid hb5
          clear hb5 hW5
          rw [hH5] at c2 c3 c6
          clear hH5 HH5
          obtain ⟨p0, p1, p2, p3, p4, p5⟩ := HCK.out W5 HB5.out
          by_cases hsy : e0.src = y
          · have t1 : (e0.src != y) = false := by simp [hsy]
            by_cases hin : pk ∈ x.runs
            · have hq := fun n => (HH.out pk (W5.drewN n) (below_drewN HB5.out n)).mono (fun e w' (h : e = .returned (.bool (decide (pk ∈ x.runs))) ∧ W5.drewN n = w') => (⟨by rw [h.1, decide_eq_true hin], h.2.symm⟩ : e = .returned (.bool true) ∧ w' = W5.drewN n))
              have HQ := Lib.hid hq
              have HN := Lib.hid (show walkF (downL x.m.runs x.runs) (p.drop (k + 1)) (n + e0.len) e0.dst = walkF (downL x.m.runs x.runs) p 0 u by rw [HST.out, walkF_down_yes HF.out hin hsy])
              have hlb := (HOK.out.run (findRun_some HF.out).1).2.2
              clear hq hsy hin
              go_wp2_with fail
              go_big_quiet ((go_at_call 35; refine Calls.quiet_of_same (HQ.out _)))
              go_wp2_with fail
              have W_ : IntKind.i64.wrap (n + e0.len) = n + e0.len := IntWalk.i64_in _ (by omega)
              go_big_quiet (fail)
              clear W_
              go_wp2_with fail
              go_roundw
              case rel => exact ⟨k + 1, n + e0.len, e0.dst, by omega, by go_num, rfl, rfl, by omega, by omega, HN.out, by first | exact below_drewN (below_drewN HB5.out _) _ | exact below_drewN HB5.out _⟩
              case measure => simp [intOf]; omega
            · have hq := fun n => (HH.out pk (W5.drewN n) (below_drewN HB5.out n)).mono (fun e w' (h : e = .returned (.bool (decide (pk ∈ x.runs))) ∧ W5.drewN n = w') => (⟨by rw [h.1, decide_eq_false hin], h.2.symm⟩ : e = .returned (.bool false) ∧ w' = W5.drewN n))
              have HQ := Lib.hid hq
              have HRS := Lib.hid (lead_none (HST.out.trans (walkF_down_no fun _ _ h => absurd h hin)))
              clear hq hsy hin
              go_wp2_with fail
              go_big_quiet ((go_at_call 35; refine Calls.quiet_of_same (HQ.out _)))
              go_wp2_with fail
              go_ret2
              exact ⟨by rw [HRS.out]; rfl, below_in HB1.out (below_drewN HB5.out _) HB1.out.size⟩
          · have t1 : (e0.src != y) = true := by simp [hsy]
            have HRS := Lib.hid (lead_none (HST.out.trans (walkF_down_no fun e he _ => by rw [HF.out] at he; cases he; exact hsy)))
            clear hsy
            go_wp2_with fail
            go_big_quiet (fail)
            go_wp2_with fail
            go_ret2
            exact ⟨by rw [HRS.out]; rfl, below_in HB1.out (below_drewN HB5.out _) HB1.out.size⟩
    · have hkl : k = p.length := by omega
      subst hkl
      have HRS := Lib.hid (show leadR x p u = (n, decide (y ∈ x.m.bases)) by
        have := HI.out
        rw [List.drop_of_length_le (Nat.le_refl _)] at this
        unfold leadR
        rw [← this]; rfl)
      have i1 : ¬ ((p.length : Int) < (p.length : Int)) := by omega
      obtain ⟨bb, hbb⟩ : ∃ bb, bb = decide (y ∈ x.m.bases) := ⟨_, rfl⟩
      have hk1 := HK.out y wr HB.out
      rw [← hbb] at HRS hk1
      have HK1 := Lib.hid hk1
      clear hbb hk1
      go_wp2_with fail
      refine HK1.out.mono ?_
      rintro e w6 ⟨rfl, rfl⟩
      go_wp2_with fail
      go_ret2
      exact ⟨by rw [HRS.out]; rfl, below_in HB1.out HB.out HB1.out.size⟩
end Go.Proofs.Ytoeiongnjogpeaa
