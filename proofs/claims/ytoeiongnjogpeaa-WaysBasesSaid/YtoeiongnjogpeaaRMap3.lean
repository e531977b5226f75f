/- Proved here: bases and Right of the reference of chapter 10: no error means that the map is right. Condition: the map reads. -/
import Derived.Test.YtoeiongnjogpeaaRMap2
namespace Go.Proofs.Ytoeiongnjogpeaa
open Go.RowKit
def BasesOk (m : MapM) : Prop := m.bases ≠ [] ∧ (∀ b ∈ m.bases, ∃ x, findNode m.nodes b = some x) ∧ ∀ i, i + 1 < m.bases.length → numAt m.bases i < numAt m.bases (i + 1)
set_option maxRecDepth 100000 in
set_option maxHeartbeats 4000000 in
theorem rbases_any (V : MapA) (m : MapM) (w : World) (hm : RdM w V m) :
    Calls Try.prog 44 #[mapV V m] w (OkPost (BasesOk m) w) := by
  obtain ⟨W1, hW1⟩ : ∃ W1, W1 = w.alloc (.cells #[.slice V.N m.nodes.length V.n, .slice V.L m.lifts.length V.l, .slice V.R m.runs.length V.r, .slice V.B m.bases.length V.b] 27) := ⟨_, rfl⟩
  have hb1 : Below w.heap.size w W1 := by rw [hW1]; exact box_below _ _
  have hbox : mapBox W1 w.heap.size V.N V.L V.R V.B V.n V.l V.r V.b m := by rw [hW1]; exact mapBox_new _ _ _ _ _ _ _ _ _ _
  have hn := fun i W (h : Below W1.heap.size W1 W) => rnode_any V m i W ((hm.below hb1).below h)
  obtain ⟨N_, L_, R_, B_, nc, lc, rc, bc⟩ := V
  dsimp only at hbox hn hW1
  unfold mapV at hn
  dsimp only at hn
  have hl : RdI W1 B_ m.bases := hm.bases.below hb1
  have hlen := hl.1
  have HL := Lib.hid hl
  have HN := Lib.hid hn
  have HBOX := Lib.hid (fun W (h : Below W1.heap.size W1 W) => hbox.below h)
  have HB1 := Lib.hid hb1
  clear hm hb1 hbox hn hl
  unfold mapV
  dsimp only
  by_cases hz : m.bases.length = 0
  · have t1 : ((m.bases.length : Int) == 0) = true := by simp [hz]
    have t1' : (m.bases.length == 0) = true := by simp [hz]
    have t1'' : m.bases = [] := List.eq_nil_of_length_eq_zero hz
    clear hz
    go_enter Try.func44, Try.ntmps44
    go_wp2_with fail
    go_ret
    exact ⟨8, rfl, (fun h => by cases h), box_below _ _⟩
  · have t1 : ((m.bases.length : Int) == 0) = false := beq_eq_false_iff_ne.2 (by omega)
    have t1' : (m.bases.length == 0) = false := beq_eq_false_iff_ne.2 (by omega)
    have HNE := Lib.hid (show m.bases ≠ [] from fun h => hz (by rw [h]; rfl))
    have t1'' : ¬ (m.bases = []) := HNE.out
    clear hz
    go_enter Try.func44, Try.ntmps44
    go_wp2_with fail
    rw [← hW1]
    clear hW1 t1 t1' t1''
    go_loopw [3] (fun iv wr => ∃ k : Nat, k ≤ m.bases.length ∧ iv = .int .i64 k ∧ Hid (∀ b ∈ m.bases.take k, ∃ x, findNode m.nodes b = some x) ∧ Hid (Below W1.heap.size W1 wr)) (fun iv _ => m.bases.length - (intOf iv).toNat)
    case atStart => exact ⟨0, Nat.zero_le _, rfl, Lib.hid (by simp), Below.refl _ _⟩
    case round =>
      obtain ⟨k, hk, rfl, HI, HB⟩ := hrel
      obtain ⟨q0, q1, q2, q3⟩ := HBOX.out wr HB.out
      clear q0 q1 q2
      by_cases hlt : k < m.bases.length
      · have i1 : ((k : Int) < (m.bases.length : Int)) := by omega
        obtain ⟨a, rfl⟩ := HL.out.addr hlt
        have HTK := Lib.hid (take_num hlt)
        obtain ⟨bk, hbk⟩ : ∃ bk, bk = numAt m.bases k := ⟨_, rfl⟩
        have HCK := Lib.hid (fun W (h : Below W1.heap.size W1 W) => (⟨(HBOX.out W h).1, (HBOX.out W h).2.1, (HBOX.out W h).2.2.1, (HBOX.out W h).2.2.2, by rw [hbk]; exact HL.out.at_ h hlt⟩ : W.cell? ⟨w.heap.size, 0, none⟩ = some (.slice N_ m.nodes.length nc) ∧ W.cell? ⟨w.heap.size, 1, none⟩ = some (.slice L_ m.lifts.length lc) ∧ W.cell? ⟨w.heap.size, 2, none⟩ = some (.slice R_ m.runs.length rc) ∧ W.cell? ⟨w.heap.size, 3, none⟩ = some (.slice (some a) m.bases.length bc) ∧ W.cell? (a.add k) = some (.int .i64 bk)))
        rw [← hbk] at HTK
        clear hbk
        obtain ⟨x, okx, hx, hx1⟩ : ∃ (x : NodeM) (okx : Bool), nodeR m.nodes bk = .tuple #[.agg #[.int .i64 x.id, .int .i64 x.alt], .bool okx] ∧ (okx = true → ∃ x, findNode m.nodes bk = some x) := by
          unfold nodeR
          cases hf : findNode m.nodes bk with
          | none => exact ⟨⟨0, 0⟩, false, rfl, (fun h => by cases h)⟩
          | some x => exact ⟨x, true, rfl, fun _ => ⟨x, rfl⟩⟩
        have hn1 := HN.out bk
        rw [hx] at hn1
        have HN1 := Lib.hid hn1
        have HX1 := Lib.hid hx1
        clear hn1 hx hx1
        have hb0 : Hid (Below W1.heap.size W1 wr) := HB.out
        have hb2 : Hid (Below W1.heap.size W1 wr.drew) := HB.out.drew
        have HSZ := Lib.hid HB.out.size
        go_wp2_with fail
        clear q3
        go_region_held3 (fun W : World => W.cell? ⟨w.heap.size, 0, none⟩ = some (.slice N_ m.nodes.length nc) ∧ W.cell? ⟨w.heap.size, 1, none⟩ = some (.slice L_ m.lifts.length lc) ∧ W.cell? ⟨w.heap.size, 2, none⟩ = some (.slice R_ m.runs.length rc) ∧ W.cell? ⟨w.heap.size, 3, none⟩ = some (.slice (some a) m.bases.length bc) ∧ W.cell? (a.add k) = some (.int .i64 bk))
          (first | exact HCK.out _ hb0.out | exact HCK.out _ hb2.out | exact HCK.out _ HB8.out | exact HCK.out _ (HB8.out.alloc HB8.out.size _) | exact HCK.out _ (hb2.out.alloc hb2.out.size _) | exact HCK.out _ (setc_below (setc_below HB8.out HSZ.out _) HSZ.out _))
          (first | (go_at_call 39; refine (HN1.out _ (by first | exact hb0.out | exact hb2.out | exact hb2.out.alloc hb2.out.size _ | exact hb0.out.alloc hb0.out.size _)).mono ?_; rintro e w8 ⟨rfl, hb8⟩; (try (have hzz : w8.heap[wr.heap.size]? = some (.cells #[.int .i64 0, .int .i64 0] 68 (0, 0)) := (hb8.block _ (by simp [World.drew])).trans (heap_alloc_new wr.drew _); have hzc := node_zcells hzz; have hzf := node_zfroz hzz; obtain ⟨hzc1, hzc2⟩ := hzc; obtain ⟨hzf1, hzf2⟩ := hzf; clear hzz)); have HB8 := Lib.hid (show Below W1.heap.size W1 w8 from by first | exact below_go hb0.out hb8 | exact below_go hb2.out hb8 | exact below_go (hb2.out.alloc hb2.out.size _) hb8 | exact below_go (hb0.out.alloc hb0.out.size _) hb8); clear hb8))
        all_goals
          cases okx with
          | false =>
            go_wp2_with fail
            go_ret
            refine ⟨8, rfl, (fun h => by cases h), ?_⟩
            first | exact below_in HB1.out (HB8.out.alloc HB8.out.size _) HB1.out.size | exact below_in HB1.out (setc_below (setc_below HB8.out HSZ.out _) HSZ.out _) HB1.out.size
          | true =>
            have HI2 := Lib.hid (show ∀ b ∈ m.bases.take (k + 1), ∃ x, findNode m.nodes b = some x by
              rw [HTK.out]
              intro b hb
              rcases List.mem_append.1 hb with h | h
              · exact HI.out b h
              · obtain rfl : b = bk := by simpa using h
                exact HX1.out rfl)
            go_wp2_with fail
            go_roundw
            case rel => exact ⟨k + 1, by omega, by go_num, HI2.out, by first | exact HB8.out.alloc HB8.out.size _ | exact setc_below (setc_below HB8.out HSZ.out _) HSZ.out _⟩
            case measure => simp [intOf]; omega
      · have hkl : k = m.bases.length := by omega
        subst hkl
        have HI1 := Lib.hid (show ∀ b ∈ m.bases, ∃ x, findNode m.nodes b = some x by have := HI.out; rwa [List.take_length] at this)
        have i1 : ¬ ((m.bases.length : Int) < (m.bases.length : Int)) := by omega
        have hpos : 0 < m.bases.length := by
          rcases Nat.eq_zero_or_pos m.bases.length with h | h
          · exact absurd (List.eq_nil_of_length_eq_zero h) HNE.out
          · exact h
        clear HI
        go_wp2_with fail
        clear i1
        go_loopw [6] (fun iv wq => ∃ k : Nat, 1 ≤ k ∧ k ≤ m.bases.length ∧ iv = .int .i64 k ∧ Hid (∀ i, i + 1 < k → numAt m.bases i < numAt m.bases (i + 1)) ∧ Hid (Below W1.heap.size W1 wq)) (fun iv _ => m.bases.length - (intOf iv).toNat)
        case atStart => exact ⟨1, Nat.le_refl _, hpos, rfl, fun i h => by omega, HB.out⟩
        case round =>
          clear q3 HB
          obtain ⟨k, hk1, hk, rfl, HI, HB⟩ := hrel
          obtain ⟨q0, q1, q2, q3⟩ := HBOX.out wr HB.out
          clear q0 q1 q2
          by_cases hlt : k < m.bases.length
          · have i1 : ((k : Int) < (m.bases.length : Int)) := by omega
            obtain ⟨a, rfl⟩ := HL.out.addr hlt
            have hk2 : k - 1 < m.bases.length := by omega
            have z0 := HL.out.at_ HB.out hlt
            have z1 := HL.out.at_ HB.out hk2
            have i2 : (0 : Int) ≤ (k : Int) - 1 := by omega
            have i3 : (k : Int) - 1 < (m.bases.length : Int) := by omega
            have i4 : ((k : Int) - 1).toNat = k - 1 := by omega
            obtain ⟨p, hp⟩ : ∃ p, p = numAt m.bases (k - 1) := ⟨_, rfl⟩
            have HP := Lib.hid hp
            rw [← hp] at z1
            clear hp
            by_cases hle : numAt m.bases k ≤ p
            · have W_ : IntKind.i64.wrap ((k : Int) - 1) = (k : Int) - 1 := IntWalk.i64_in _ (by omega)
              go_wp2_with fail
              go_big_quiet (fail)
              clear W_
              go_wp2_with fail
              go_ret
              exact ⟨7, rfl, (fun h => by cases h), below_drewN (below_in HB1.out HB.out HB1.out.size) _⟩
            · have HI2 := Lib.hid (show ∀ i, i + 1 < k + 1 → numAt m.bases i < numAt m.bases (i + 1) from fun i hi => by
                rcases Nat.lt_or_ge (i + 1) k with h | h
                · exact HI.out i h
                · have h1 := HP.out
                  have h2 : i = k - 1 := by omega
                  subst h2
                  rw [show k - 1 + 1 = k by omega]
                  omega)
              have W_ : IntKind.i64.wrap ((k : Int) - 1) = (k : Int) - 1 := IntWalk.i64_in _ (by omega)
              go_wp2_with fail
              go_big_quiet (fail)
              clear W_
              go_wp2_with fail
              go_roundw
              case rel => exact ⟨k + 1, by omega, by omega, by go_num, HI2.out, below_drewN HB.out _⟩
              case measure => simp [intOf]; omega
          · have hkl : k = m.bases.length := by omega
            subst hkl
            have HOK := Lib.hid (show BasesOk m from ⟨HNE.out, HI1.out, HI.out⟩)
            have i1 : ¬ ((m.bases.length : Int) < (m.bases.length : Int)) := by omega
            go_wp2_with fail
            go_ret
            exact ⟨0, rfl, fun _ => HOK.out, below_in HB1.out HB.out HB1.out.size⟩
theorem pw_of_adj {l : List Int} (h : ∀ i, i + 1 < l.length → numAt l i < numAt l (i + 1)) : l.Pairwise (· < ·) := by
  rw [List.pairwise_iff_getElem]
  intro i j hi hj hij
  have h1 := up_of_adj (f := numAt l) (n := l.length) h i j hij hj
  have e1 := numAt_eq hi
  have e2 := numAt_eq hj
  rw [List.getElem?_eq_getElem hi] at e1
  rw [List.getElem?_eq_getElem hj] at e2
  rw [Option.some.inj e1, Option.some.inj e2]
  exact h1
theorem mapOk_of {m : MapM} (h1 : m.nodes.length ≤ 64) (h2 : m.lifts.length ≤ 32) (h3 : m.runs.length ≤ 64) (h4 : m.bases.length ≤ 64) (hn : NodesOk m.nodes m.nodes.length) (hl : LiftsOk m m.lifts.length) (hr : RunsOk m m.runs.length) (hb : BasesOk m) : MapOk m := by
  refine ⟨h1, h2, h3, h4, fun x hx => ?_, up_of_adj (f := fun i => (nodeAt m.nodes i).id) hn.2, fun x hx => ?_, up_of_adj (f := fun i => (liftAt m.lifts i).id) hl.2, fun x hx => ?_, up_of_adj (f := fun i => (runAt m.runs i).id) hr.2, hb.1, hb.2.1, pw_of_adj hb.2.2⟩
  · obtain ⟨j, hj, rfl⟩ := mem_nodeAt hx
    exact hn.1 j hj
  · obtain ⟨j, hj, rfl⟩ := mem_liftAt hx
    obtain ⟨⟨a, b, c, d, e, f⟩, g⟩ := hl.1 j hj
    exact ⟨a, b, c, d, e, f, g⟩
  · obtain ⟨j, hj, rfl⟩ := mem_runAt hx
    obtain ⟨⟨a, b, c, d, e⟩, g⟩ := hr.1 j hj
    exact ⟨a, b, c, d, e, g⟩
set_option maxRecDepth 100000 in
set_option maxHeartbeats 4000000 in
/-- Right. -/
theorem rmapright_any (V : MapA) (m : MapM) (w : World) (hm : RdM w V m) :
    Calls Try.prog 12 #[mapV V m] w (OkPost (MapOk m) w) := by
  obtain ⟨W1, hW1⟩ : ∃ W1, W1 = w.alloc (.cells #[.slice V.N m.nodes.length V.n, .slice V.L m.lifts.length V.l, .slice V.R m.runs.length V.r, .slice V.B m.bases.length V.b] 27) := ⟨_, rfl⟩
  have hb1 : Below w.heap.size w W1 := by rw [hW1]; exact box_below _ _
  have hbox : mapBox W1 w.heap.size V.N V.L V.R V.B V.n V.l V.r V.b m := by rw [hW1]; exact mapBox_new _ _ _ _ _ _ _ _ _ _
  have hn := fun W (h : Below W1.heap.size W1 W) => rnodes_any V.N V.n m.nodes W ((hm.below hb1).below h).nodes
  have hl := fun W (h : Below W1.heap.size W1 W) => rlifts_any V m W ((hm.below hb1).below h)
  have hr := fun W (h : Below W1.heap.size W1 W) => rruns_any V m W ((hm.below hb1).below h)
  have hbs := fun W (h : Below W1.heap.size W1 W) => rbases_any V m W ((hm.below hb1).below h)
  have e1 := hm.nodes.1
  have e2 := hm.lifts.1
  have e3 := hm.runs.1
  have e4 := hm.bases.1
  obtain ⟨N_, L_, R_, B_, nc, lc, rc, bc⟩ := V
  dsimp only at hbox hn hl hr hbs hW1
  unfold mapV at hl hr hbs
  dsimp only at hl hr hbs
  have HN := Lib.hid hn
  have HL := Lib.hid hl
  have HR := Lib.hid hr
  have HBS := Lib.hid hbs
  have HBOX := Lib.hid (fun W (h : Below W1.heap.size W1 W) => hbox.below h)
  have HB1 := Lib.hid hb1
  clear hm hb1 hbox hn hl hr hbs
  unfold mapV
  dsimp only
  have hcase : 64 < m.nodes.length ∨ (m.nodes.length ≤ 64 ∧ 32 < m.lifts.length) ∨ (m.nodes.length ≤ 64 ∧ m.lifts.length ≤ 32 ∧ 64 < m.runs.length) ∨ (m.nodes.length ≤ 64 ∧ m.lifts.length ≤ 32 ∧ m.runs.length ≤ 64 ∧ 64 < m.bases.length) ∨ (m.nodes.length ≤ 64 ∧ m.lifts.length ≤ 32 ∧ m.runs.length ≤ 64 ∧ m.bases.length ≤ 64) := by omega
  rcases hcase with h1 | ⟨h1, h2⟩ | ⟨h1, h2, h3⟩ | ⟨h1, h2, h3, h4⟩ | ⟨h1, h2, h3, h4⟩
  · go_enter Try.func12, Try.ntmps12
    go_wp2_with fail
    go_ret
    exact ⟨4, rfl, (fun h => by cases h), box_below _ _⟩
  · go_enter Try.func12, Try.ntmps12
    go_wp2_with fail
    go_ret
    exact ⟨4, rfl, (fun h => by cases h), box_below _ _⟩
  · go_enter Try.func12, Try.ntmps12
    go_wp2_with fail
    go_ret
    exact ⟨4, rfl, (fun h => by cases h), box_below _ _⟩
  · go_enter Try.func12, Try.ntmps12
    go_wp2_with fail
    go_ret
    exact ⟨4, rfl, (fun h => by cases h), box_below _ _⟩
  · have HLEN := Lib.hid (show m.nodes.length ≤ 64 ∧ m.lifts.length ≤ 32 ∧ m.runs.length ≤ 64 ∧ m.bases.length ≤ 64 from ⟨h1, h2, h3, h4⟩)
    go_enter Try.func12, Try.ntmps12
    have H1 := Lib.hid (HN.out W1 (Below.refl _ _))
    rw [hW1] at H1
    go_wp2_with fail
    refine H1.out.mono ?_
    rw [← hW1]
    rintro e w2 ⟨k1, rfl, hk1, hb2⟩
    have HK1 := Lib.hid hk1
    have HB2 := Lib.hid hb2
    clear hk1 hb2 H1 hW1 HN
    by_cases hz1 : k1 = 0
    · have t1 : (k1 != 0) = false := by simp [hz1]
      have HO1 := Lib.hid (HK1.out hz1)
      clear hz1 HK1
      obtain ⟨q0, q1, q2, q3⟩ := HBOX.out w2 HB2.out
      have H2 := Lib.hid (HL.out w2 HB2.out)
      go_wp2_with fail
      refine H2.out.mono ?_
      rintro e w3 ⟨k2, rfl, hk2, hb3⟩
      have HK2 := Lib.hid hk2
      have HB3 := Lib.hid (below_go HB2.out hb3)
      clear hk2 hb3 H2 q0 q1 q2 q3 t1
      by_cases hz2 : k2 = 0
      · have t1 : (k2 != 0) = false := by simp [hz2]
        have HO2 := Lib.hid (HK2.out hz2)
        clear hz2 HK2
        obtain ⟨q0, q1, q2, q3⟩ := HBOX.out w3 HB3.out
        have H3 := Lib.hid (HR.out w3 HB3.out)
        go_wp2_with fail
        refine H3.out.mono ?_
        rintro e w4 ⟨k3, rfl, hk3, hb4⟩
        have HK3 := Lib.hid hk3
        have HB4 := Lib.hid (below_go HB3.out hb4)
        clear hk3 hb4 H3 q0 q1 q2 q3 t1
        by_cases hz3 : k3 = 0
        · have t1 : (k3 != 0) = false := by simp [hz3]
          have HO3 := Lib.hid (HK3.out hz3)
          clear hz3 HK3
          obtain ⟨q0, q1, q2, q3⟩ := HBOX.out w4 HB4.out
          have H4 := Lib.hid (HBS.out w4 HB4.out)
          go_wp2_with fail
          refine H4.out.mono ?_
          rintro e w5 ⟨k4, rfl, hk4, hb5⟩
          have HK4 := Lib.hid hk4
          have HB5 := Lib.hid (below_go HB4.out hb5)
          clear hk4 hb5 H4 q0 q1 q2 q3 t1
          go_wp2_with fail
          go_ret
          exact ⟨k4, rfl, fun h => mapOk_of HLEN.out.1 HLEN.out.2.1 HLEN.out.2.2.1 HLEN.out.2.2.2 HO1.out HO2.out HO3.out (HK4.out h), below_in HB1.out HB5.out HB1.out.size⟩
        · have t1 : (k3 != 0) = true := by simp [hz3]
          have HZ := Lib.hid hz3
          clear hz3
          go_wp2_with fail
          go_ret
          exact ⟨k3, rfl, (fun h => absurd h HZ.out), below_in HB1.out HB4.out HB1.out.size⟩
      · have t1 : (k2 != 0) = true := by simp [hz2]
        have HZ := Lib.hid hz2
        clear hz2
        go_wp2_with fail
        go_ret
        exact ⟨k2, rfl, (fun h => absurd h HZ.out), below_in HB1.out HB3.out HB1.out.size⟩
    · have t1 : (k1 != 0) = true := by simp [hz1]
      have HZ := Lib.hid hz1
      clear hz1
      go_wp2_with fail
      go_ret
      exact ⟨k1, rfl, (fun h => absurd h HZ.out), below_in HB1.out HB2.out HB1.out.size⟩
end Go.Proofs.Ytoeiongnjogpeaa
