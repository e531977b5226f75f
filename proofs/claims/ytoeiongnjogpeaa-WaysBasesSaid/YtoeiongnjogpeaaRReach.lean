/- Proved here: Reachable of the reference of chapter 11. Condition: the map reads and is right, the lists read. -/
import Derived.Test.YtoeiongnjogpeaaWHome
import Derived.Deep.DeepMust
namespace Go.Proofs.Ytoeiongnjogpeaa
open Go.RowKit
def zeroE (x : LiftM) : Edge := ⟨0, x.src, x.dst, 0⟩
def zl (l : List LiftM) (ids : List Int) : List Edge := (l.filter (fun x => decide (x.id ∈ ids))).map zeroE
theorem zl_take {l : List LiftM} {k : Nat} (h : k < l.length) (ids : List Int) : zl (l.take (k + 1)) ids = zl (l.take k) ids ++ if (liftAt l k).id ∈ ids then [zeroE (liftAt l k)] else [] := by
  unfold zl
  rw [take_lift h, List.filter_append, List.map_append]
  congr 1
  by_cases hx : (liftAt l k).id ∈ ids <;> simp [hx]
theorem zl_len (l : List LiftM) (ids : List Int) : (zl l ids).length ≤ l.length := by
  unfold zl; rw [List.length_map]; exact List.length_filter_le _ _
theorem mem_zl {l : List LiftM} {ids : List Int} {e : Edge} : e ∈ zl l ids ↔ ∃ x ∈ l, x.id ∈ ids ∧ e = zeroE x := by
  unfold zl
  rw [List.mem_map]
  constructor
  · rintro ⟨x, hx, rfl⟩
    rw [List.mem_filter] at hx
    exact ⟨x, hx.1, of_decide_eq_true hx.2, rfl⟩
  · rintro ⟨x, hx, hi, rfl⟩
    exact ⟨x, List.mem_filter.2 ⟨hx, decide_eq_true hi⟩, rfl⟩
theorem reached_of_zl {m : MapM} {lifts runs ss : List Int} (h : RS5 (downL m.runs runs ++ zl m.lifts lifts) m.bases ss) : Reached m lifts runs ss := by
  refine h.ends (fun e he => ?_) (fun e he => ?_)
  · rcases List.mem_append.1 he with he | he
    · exact ⟨e, List.mem_append_right _ he, rfl, rfl⟩
    · obtain ⟨x, hx, hi, rfl⟩ := mem_zl.1 he
      exact ⟨liftE x, List.mem_append_left _ (mem_upL.2 ⟨x, hx, hi, rfl⟩), rfl, rfl⟩
  · unfold waysE at he
    rcases List.mem_append.1 he with he | he
    · obtain ⟨x, hx, hi, rfl⟩ := mem_upL.1 he
      exact ⟨zeroE x, List.mem_append_right _ (mem_zl.2 ⟨x, hx, hi, rfl⟩), rfl, rfl⟩
    · exact ⟨e, List.mem_append_left _ he, rfl, rfl⟩
set_option maxRecDepth 100000 in
set_option maxHeartbeats 4000000 in
theorem rreachable_any (V : MapA) (m : MapM) (ok : MapOk m) (F G : Option Addr) (d c : Nat) (lifts runs : List Int) (w : World) (hm : RdM w V m) (hf : RdI w F lifts) (hg : RdI w G runs) :
    Calls Try.prog 25 #[mapV V m, .slice F lifts.length d, .slice G runs.length c] w fun e w' => ∃ A' c' ss, e = .returned (.slice A' ss.length c') ∧ Reached m lifts runs ss ∧ RdI w' A' ss ∧ Below w.heap.size w w' := by
  obtain ⟨W1, hW1⟩ : ∃ W1, W1 = w.alloc (.cells #[.slice V.N m.nodes.length V.n, .slice V.L m.lifts.length V.l, .slice V.R m.runs.length V.r, .slice V.B m.bases.length V.b] 27) := ⟨_, rfl⟩
  have hb1 : Below w.heap.size w W1 := by rw [hW1]; exact box_below _ _
  have hbox : mapBox W1 w.heap.size V.N V.L V.R V.B V.n V.l V.r V.b m := by rw [hW1]; exact mapBox_new _ _ _ _ _ _ _ _ _ _
  have hd := rdown_any V m G c runs W1 (hm.below hb1) (hg.below hb1) (by have := ok.nr; omega)
  have hEl := downL_len m.runs runs
  have hnl := ok.nl
  have hnr := ok.nr
  have hzl := fun k => zl_len (m.lifts.take k) lifts
  have hk := fun A c W (h : RdE W A (downL m.runs runs ++ zl m.lifts lifts)) (hb : Below W1.heap.size W1 W) => rreach_any A V.B c V.b (downL m.runs runs ++ zl m.lifts lifts) m.bases W h ((hm.bases.below hb1).below hb) (by have := zl_len m.lifts lifts; rw [List.length_append]; omega) (by have := ok.nb; omega)
  obtain ⟨E, hE⟩ : ∃ E, E = downL m.runs runs := ⟨_, rfl⟩
  rw [← hE] at hd hk hEl
  have HE := Lib.hid (show ∀ ss, RS5 (E ++ zl m.lifts lifts) m.bases ss → Reached m lifts runs ss by rw [hE]; exact fun _ h => reached_of_zl h)
  obtain ⟨N_, L_, R_, B_, nc, lc, rc, bc⟩ := V
  dsimp only at hbox hd hk hW1
  unfold mapV at hd
  dsimp only at hd
  have hL : RdLift W1 L_ m.lifts := hm.lifts.below hb1
  have hlen := hL.1
  have HD := Lib.hid hd
  have HK := Lib.hid hk
  have HL := Lib.hid hL
  have HH := Lib.hid (fun x W (h : Below W1.heap.size W1 W) => has_any F d lifts x W ((hf.below hb1).below h))
  have HBOX := Lib.hid (fun W (h : Below W1.heap.size W1 W) => hbox.below h)
  have HB1 := Lib.hid hb1
  have HZL := Lib.hid hzl
  clear hm hf hg hd hk hb1 hbox hE hL hzl ok
  unfold mapV
  dsimp only
  go_enter Try.func25, Try.ntmps25
  go_wp2_with fail
  rw [← hW1]
  refine HD.out.mono ?_
  rintro e w2 ⟨A2, c2, rfl, hr2, hb2⟩
  have HR2 := Lib.hid hr2
  have HB2 := Lib.hid hb2
  clear hW1 HD hr2 hb2
  go_wp2_with (at_builtin; go_must (refine OwnS.wp_appendAll rfl _ _ 78 rfl 94 (.agg #[.int .i64 0, .int .i64 0, .int .i64 0, .int .i64 0]) 4 32 Try.underlying78 (by kernel_rfl) rfl (by omega) (by omega) W1.heap.size 0 E.length (.slice none 0 0) [] rfl (OwnS.nil _ _ _ _) A2 c2 (E.flatMap edgeCells) rfl (by rw [flat_len]) (fun hpos => by obtain ⟨ad, rfl⟩ := HR2.out.addr hpos; exact ⟨ad, rfl, fun j u hj => HR2.out.cell_at (Below.refl _ _) hj⟩) (fun u hu => by obtain ⟨e, _, hu⟩ := List.mem_flatMap.1 hu; simp only [edgeCells, List.mem_cons, List.not_mem_nil, or_false] at hu; rcases hu with rfl | rfl | rfl | rfl <;> rfl) (by omega) HB2.out.size ?_); intro v3 w3 ho3 hg3 _)
  have HO3 : Hid (OwnEd w3 W1.heap.size v3 (E ++ zl (m.lifts.take 0) lifts)) := by
    rw [List.take_zero]
    show OwnS _ _ _ _ _ _ _
    simpa [zl] using ho3
  have HB3 := Lib.hid (HB2.out.grown hg3 HB2.out.size (fun k hk => by cases hk))
  clear ho3 hg3 HR2 HB2
  go_wp2_with fail
  go_loopw [7, 8] (fun ov i wr => ∃ k : Nat, k ≤ m.lifts.length ∧ i = .int .i64 k ∧ Hid (OwnEd wr W1.heap.size ov (E ++ zl (m.lifts.take k) lifts)) ∧ Hid (Below W1.heap.size W1 wr)) (fun _ i _ => m.lifts.length - (intOf i).toNat)
  case atStart => exact ⟨0, Nat.zero_le _, rfl, HO3.out, HB3.out⟩
  case round =>
    clear HO3 HB3
    obtain ⟨k, hk, rfl, HO, HB⟩ := hrel
    obtain ⟨A1, c1, rfl⟩ := HO.out.slice
    obtain ⟨bx0, bx1, bx2, bx3⟩ := HBOX.out wr HB.out
    clear bx0 bx2
    by_cases hlt : k < m.lifts.length
    · have i1 : ((k : Int) < (m.lifts.length : Int)) := by omega
      obtain ⟨a, rfl⟩ := HL.out.addr hlt
      obtain ⟨x0, x1, x2, x3, x4, x5, x6, x7⟩ := HL.out.at_ HB.out hlt
      have HST := Lib.hid (zl_take hlt lifts)
      have hle : (E ++ zl (m.lifts.take k) lifts).length ≤ 1000 := by
        have := HZL.out k
        rw [List.length_append]
        rw [List.length_take] at this
        omega
      have HC1 := Lib.hid (HH.out (liftAt m.lifts k).id wr HB.out)
      obtain ⟨out, hout⟩ : ∃ out, out = E ++ zl (m.lifts.take k) lifts := ⟨_, rfl⟩
      have HOUT := Lib.hid hout
      rw [← hout] at HO hle ⊢
      clear hout
      clear x1 x4 x5 x6 x7
      go_wp2_with fail
      refine HC1.out.mono ?_
      rintro e w4 ⟨rfl, rfl⟩
      clear HC1
      by_cases hx : (liftAt m.lifts k).id ∈ lifts
      · rw [decide_eq_true hx]
        have HT := Lib.hid (show E ++ zl (m.lifts.take (k + 1)) lifts = out ++ [zeroE (liftAt m.lifts k)] by rw [HST.out, if_pos hx, HOUT.out, List.append_assoc])
        have HB' := Lib.hid HB.out.size
        have hby : Below W1.heap.size W1 (wr.alloc (.cells #[.int .i64 0, .int .i64 (liftAt m.lifts k).src, .int .i64 (liftAt m.lifts k).dst, .int .i64 0] 94)).drew := (HB.out.alloc HB.out.size _).drew
        have hS := fun W (h : Below W1.heap.size W1 W) => (⟨(HBOX.out W h).2.1, (HL.out.at_ h hlt).2.2.1, (HL.out.at_ h hlt).2.2.2.1⟩ : W.cell? ⟨w.heap.size, 1, none⟩ = some (.slice (some a) m.lifts.length lc) ∧ W.cell? ⟨(a.add (k * 8)).block, (a.add (k * 8)).off + 2, none⟩ = some (.int .i64 (liftAt m.lifts k).src) ∧ W.cell? ⟨(a.add (k * 8)).block, (a.add (k * 8)).off + 3, none⟩ = some (.int .i64 (liftAt m.lifts k).dst))
        have HS := Lib.hid hS
        have HBY := Lib.hid hby
        have HG := Lib.hid (fun (W : World) (hg : (wr.alloc (.cells #[.int .i64 0, .int .i64 (liftAt m.lifts k).src, .int .i64 (liftAt m.lifts k).dst, .int .i64 0] 94)).drew.grownBy W (Value.slice A1 out.length c1).ownBlock) =>
          (hby.grown hg (by have := HB'.out; simp [World.drew]; omega) (fun k hk => (OwnS.block HO.out hk).1) : Below W1.heap.size W1 W))
        clear hx hS hby x0 x2 x3 bx1 bx3
        have hb0 : Hid (Below W1.heap.size W1 wr) := HB.out
        have hb2 : Hid (Below W1.heap.size W1 wr.drew) := HB.out.drew
        go_wp2_with fail
        go_region_held3 (fun W : World => W.cell? ⟨w.heap.size, 1, none⟩ = some (.slice (some a) m.lifts.length lc) ∧ W.cell? ⟨(a.add (k * 8)).block, (a.add (k * 8)).off + 2, none⟩ = some (.int .i64 (liftAt m.lifts k).src) ∧ W.cell? ⟨(a.add (k * 8)).block, (a.add (k * 8)).off + 3, none⟩ = some (.int .i64 (liftAt m.lifts k).dst))
          (first | exact HS.out _ hb0.out | exact HS.out _ hb2.out | exact HS.out _ HBY.out | exact HS.out _ (HG.out _ hg2))
          (first | (refine OwnS.step_append rfl _ _ 78 rfl 94 (.agg #[.int .i64 0, .int .i64 0, .int .i64 0, .int .i64 0]) 4 32 Try.underlying78 (by kernel_rfl) rfl (by omega) (by omega) W1.heap.size out.length _ (out.flatMap edgeCells) rfl (OwnS.alloc (OwnS.drew HO.out) _) ⟨wr.heap.size, 0, none⟩ 1 (edgeCells (zeroE (liftAt m.lifts k))) rfl rfl (box_cells _ #[.int .i64 0, .int .i64 (liftAt m.lifts k).src, .int .i64 (liftAt m.lifts k).dst, .int .i64 0] 94 _ rfl) (by simp [edgeCells, Value.oneCell']) (by omega) (by have := HB'.out; simp; omega) ?_; intro v' w5 ho5 hg2 _))
        obtain ⟨A5, c5, rfl, _, _⟩ := ho5.slice
        have HO5 : Hid (OwnEd w5 W1.heap.size (.slice A5 (out.length + 1) c5) (out ++ [zeroE (liftAt m.lifts k)])) := by
          show OwnS _ _ _ _ _ _ _
          have e1 : (out ++ [zeroE (liftAt m.lifts k)]).length = out.length + 1 := by simp
          rw [e1, List.flatMap_append]
          simpa using ho5
        have HB5 := Lib.hid (HG.out _ hg2)
        clear ho5 hg2
        go_wp2_with fail
        go_roundw
        case rel => exact ⟨k + 1, by omega, by go_num, by rw [HT.out]; exact HO5.out, HB5.out⟩
        case measure => simp [intOf]; omega
      · rw [decide_eq_false hx]
        have HT := Lib.hid (show E ++ zl (m.lifts.take (k + 1)) lifts = out by rw [HST.out, if_neg hx, List.append_nil, HOUT.out])
        clear hx
        go_wp2_with fail
        go_roundw
        case rel => exact ⟨k + 1, by omega, by go_num, by rw [HT.out]; exact HO.out, HB.out⟩
        case measure => simp [intOf]; omega
    · have hkl : k = m.lifts.length := by omega
      subst hkl
      rw [List.take_length] at HO ⊢
      have hle := HZL.out m.lifts.length
      rw [List.take_length] at hle
      have hre := HO.out.rdE (by rw [List.length_append]; omega)
      have hk1 := HK.out A1 c1 wr hre HB.out
      have hre2 := HE.out
      obtain ⟨T, hT⟩ : ∃ T, T = E ++ zl m.lifts lifts := ⟨_, rfl⟩
      rw [← hT] at hk1 hre2 ⊢
      have HK1 := Lib.hid hk1
      have HE2 := Lib.hid hre2
      have i1 : ¬ ((m.lifts.length : Int) < (m.lifts.length : Int)) := by omega
      clear hre hk1 hre2 hT HO
      go_wp2_with fail
      refine HK1.out.mono ?_
      rintro e w6 ⟨A6, c6, ss, rfl, hr6, hs6, hb6⟩
      have HB6 := Lib.hid (below_in HB1.out (below_in HB.out hb6 HB.out.size) HB1.out.size)
      have HR6 := Lib.hid hr6
      have HS6 := Lib.hid (HE2.out ss hs6)
      clear hr6 hs6 hb6 HK1
      go_wp2_with fail
      go_ret
      first | exact ⟨A6, c6, ss, rfl, HS6.out, HR6.out, HB6.out⟩ | exact ⟨A6, ss, ⟨_, rfl⟩, HS6.out, HR6.out, HB6.out⟩
end Go.Proofs.Ytoeiongnjogpeaa
