/- Proved here: the function Order of the package graph. Condition: the slice reads as accepted edges. -/
import Derived.Test.YtmnkgcnhmkggkaaOrderTh
namespace Go.Proofs.Ytmnkgcnhmkggkaa
open Go.RowKit
theorem Right.nodes {l : List Edge} (h : Right l) : ∀ n ∈ nodesL l, 0 ≤ n ∧ n ≤ 9999 := fun n hn => by
  obtain ⟨e, he, hx⟩ := mem_nodes.1 hn
  have := h.ok e he
  unfold EdgeOk at this
  rcases hx with rfl | rfl <;> omega
theorem nodes_len (l : List Edge) : (nodesL l).length = 2 * l.length := by
  induction l with
  | nil => rfl
  | cons e l ih => unfold nodesL at ih ⊢; rw [List.flatMap_cons, List.length_append, ih]; simp; omega
theorem wp_update' {P : Program} (w : World) {ops : Array Oper} {rest : List Oper} {o : Oper} {a : Act} {Q : Exit → Act → World → Prop}
    (hg : o.guard = none) (mo x vo : Operand) (t : TypeId) (hop : o.op = Op.mapUpdate t mo x vo) (kt e : TypeId) (ht : P.underlying t = some (.map kt e)) (hk : P.underlying kt = some (.int .i64))
    (b n : Nat) (m : Int → Option Value) (hm : a.eval mo = .map (some b)) (h : IMap.IM w b n m) (k : Int) (v : Value) (hx : a.eval x = .int .i64 k) (hv : a.eval vo = v)
    (hK : ∀ w' n', IMap.IM w' b n' (IMap.upd m k (some v)) → w.grownBy w' (some b) → wpList P ops Q rest (a.put o.dst undef) w') :
    wpList P ops Q (o :: rest) a w :=
  IMap.wp_update w hg mo x vo t hop kt e ht hk b n m hm h k v hx hv (fun w' h1 h2 => hK w' _ h1 h2)
set_option maxRecDepth 100000 in
set_option maxHeartbeats 2000000 in
theorem order_any (A : Option Addr) (c : Nat) (l : List Edge) (w : World) (hl : RdE w A l) (hr : Right l) :
    Calls Try.prog 20 #[.slice A l.length c] w fun e w' => ∃ v, e = .returned (.tuple #[v, .int .i64 (orderL l).2]) ∧ OwnS 3 1 w' w.heap.size v (orderL l).1.length ((orderL l).1.map (Value.int .i64)) ∧ Below w.heap.size w w' := by
  have hm := hl.1
  have HL := Lib.hid hl
  have HR := Lib.hid hr
  have h200 := hr.len
  clear hl hr
  have hmm := @run_makeMap Try.prog
  go_enter Try.func20, Try.ntmps20
  go_wp2_with fail
  go_loopw [16] (fun i wr => ∃ k : Nat, k ≤ l.length ∧ i = .int .i64 k ∧ Hid (∃ n, IMap.IM wr w.heap.size n (wM (l.take k) [])) ∧ Hid (Below w.heap.size w wr)) (fun i _ => l.length - (intOf i).toNat)
  case atStart => exact ⟨0, Nat.zero_le _, rfl, ⟨0, (IMap.IM.made w).congr (fun k => by rw [List.take_zero, wM_nil])⟩, (Below.refl _ _).alloc (Nat.le_refl _) _⟩
  case round =>
    clear hmm
    obtain ⟨k, hk, rfl, HM, HB⟩ := hrel
    by_cases hlt : k < l.length
    · have i1 : ((k : Int) < (l.length : Int)) := by omega
      obtain ⟨a, rfl⟩ := HL.out.addr hlt
      obtain ⟨c0, c1, c2, c3⟩ := HL.out.at_ HB.out hlt
      obtain ⟨n, hn⟩ := HM.out
      obtain ⟨W0, hW0⟩ : ∃ W0, W0 = wr.alloc (.cells #[.int .i64 (edAt l k).id, .int .i64 (edAt l k).src, .int .i64 (edAt l k).dst, .int .i64 (edAt l k).cost] 42) := ⟨_, rfl⟩
      have hn0 : IMap.IM W0 w.heap.size n (wM (l.take k) []) := by rw [hW0]; exact hn.alloc _
      have HN0 := Lib.hid hn0
      have HB0 : Hid (Below w.heap.size w W0) := by rw [hW0]; exact HB.out.alloc HB.out.size _
      have y1 : W0.cell? ⟨wr.heap.size, 1, none⟩ = some (.int .i64 (edAt l k).src) := by rw [hW0]; exact box_cell _ _ _ _ _ rfl
      have y2 : W0.cell? ⟨wr.heap.size, 2, none⟩ = some (.int .i64 (edAt l k).dst) := by rw [hW0]; exact box_cell _ _ _ _ _ rfl
      have hlk : (Instr.lookup 57 (.map (some w.heap.size)) (.int .i64 (edAt l k).src) false).run Try.prog W0 = .ok ((wM (l.take k) [] (edAt l k).src).getD (.int .i64 0)) W0 := hn0.lookup Try.underlying57 Try.underlying3 (by kernel_rfl) _
      rw [wM_getD] at hlk
      have hb1 : cntL (l.take k) [] (edAt l k).src ≤ 1000 := by
        have := cnt_le (l.take k) [] (edAt l k).src
        rw [List.length_take] at this; omega
      have hb2 : cntL (l.take k) [] (edAt l k).dst ≤ 1000 := by
        have := cnt_le (l.take k) [] (edAt l k).dst
        rw [List.length_take] at this; omega
      obtain ⟨m1, hm1⟩ : ∃ m1, m1 = cntL (l.take k) [] (edAt l k).src := ⟨_, rfl⟩
      obtain ⟨m2, hm2⟩ : ∃ m2, m2 = cntL (l.take k) [] (edAt l k).dst := ⟨_, rfl⟩
      rw [← hm1] at hlk hb1
      rw [← hm2] at hb2
      have HH : Hid (w.heap.size < wr.heap.size ∧ wr.heap.size < W0.heap.size) := ⟨hn.lt, by rw [hW0]; simp⟩
      have HM1 := Lib.hid hm1
      have HM2 := Lib.hid hm2
      clear hn hn0 hm1 hm2 HM
      have HY2 := Lib.hid y2
      rw [hW0] at hlk
      clear HB y1 y2
      subst hW0
      go_wp2_with (at_mapUpdate; refine wp_update' _ rfl _ _ _ 57 rfl 3 3 Try.underlying57 Try.underlying3 w.heap.size n _ rfl HN0.out (edAt l k).src _ rfl rfl ?_)
      intro W1 n1 hi1 hg1
      have z2 : W1.cell? ⟨wr.heap.size, 2, none⟩ = some (.int .i64 (edAt l k).dst) := (World.cell?_of_block (hg1.block wr.heap.size HH.out.2 (fun e' => by have h1 := Option.some.inj e'; have h2 := HH.out; omega))).trans HY2.out
      have hlk2 : (Instr.lookup 57 (.map (some w.heap.size)) (.int .i64 (edAt l k).dst) false).run Try.prog W1 = .ok ((IMap.upd (wM (l.take k) []) (edAt l k).src (some (.int .i64 m1)) (edAt l k).dst).getD (.int .i64 0)) W1 := hi1.lookup Try.underlying57 Try.underlying3 (by kernel_rfl) _
      have hv2 : (IMap.upd (wM (l.take k) []) (edAt l k).src (some (.int .i64 m1)) (edAt l k).dst).getD (.int .i64 0) = .int .i64 m2 := by
        unfold IMap.upd
        split
        · rename_i h
          rw [HM1.out, HM2.out, h]; rfl
        · rw [wM_getD, HM2.out]
      rw [hv2] at hlk2
      have HB1 := Lib.hid (HB0.out.grown hg1 HB0.out.size (fun j hj => by cases hj; exact Nat.le_refl _))
      have HI1 := Lib.hid hi1
      clear hi1 hg1 hv2 hlk HY2 HN0 HB0 c0 c1 c2 c3
      go_wp2_with (at_mapUpdate; refine wp_update' _ rfl _ _ _ 57 rfl 3 3 Try.underlying57 Try.underlying3 w.heap.size n1 _ rfl HI1.out (edAt l k).dst (.int .i64 ((m2 : Int) + 1)) rfl rfl ?_)
      intro W2 n2 hi2 hg2
      have HI2 : Hid (∃ n, IMap.IM W2 w.heap.size n (wM (l.take (k + 1)) [])) := ⟨_, hi2.congr (fun x => by rw [take_ed hlt, HM1.out, HM2.out, wM_step])⟩
      have HB2 := Lib.hid (HB1.out.grown hg2 HB1.out.size (fun j hj => by cases hj; exact Nat.le_refl _))
      clear hi2 hg2 hlk2 HI1 HB1
      go_wp2_with fail
      go_roundw
      case rel => exact ⟨k + 1, by omega, by go_num, HI2.out, HB2.out⟩
      case measure => simp [intOf]; omega
    · have hkl : k = l.length := by omega
      subst hkl
      rw [List.take_length] at HM
      have i1 : ¬ ((l.length : Int) < (l.length : Int)) := by omega
      go_wp2_with fail
      go_loopg [7] (nodesL l).length (fun g ov wr => ∃ (out : List Int) (n : Nat), g + out.length = (nodesL l).length ∧ Hid (OInv l out) ∧ Hid (IMap.IM wr w.heap.size n (wM l out)) ∧ Hid (OwnS 3 1 wr w.heap.size ov out.length (out.map (Value.int .i64))) ∧ Hid (∀ j, ov.ownBlock = some j → j ≠ w.heap.size) ∧ Hid (Below w.heap.size w wr))
      case atStart =>
        obtain ⟨n, hn⟩ := HM.out
        exact ⟨[], n, by simp, OInv.nil l, hn, OwnS.nil _ _ _ _, Lib.hid (fun j (hj : (Value.slice none 0 0).ownBlock = some j) => by cases hj), HB.out⟩
      case round =>
        clear HM HB hk hlt i1
        obtain ⟨out, n, hg, HO, HM, HV, HNE, HB⟩ := hrel
        obtain ⟨A1, c1, rfl, _, _⟩ := HV.out.slice
        have hol := HO.out.len
        have hnl := nodes_len l
        have hln : (Builtin.len_ #[57] 3 #[.map (some w.heap.size)]).run Try.prog wr = .ok (.int .i64 n) wr := HM.out.len (P := Try.prog) Try.underlying57 _
        rcases Nat.eq_zero_or_pos n with hn0 | hn0
        · have hE := HO.out.done (fun x hx => Classical.byContradiction fun hno => by
            have := (hn0 ▸ HM.out).size_zero x
            unfold wM at this
            rw [if_pos ⟨hx, hno⟩] at this
            cases this)
          have HE := Lib.hid hE
          subst hn0
          clear hE
          go_wp2_with fail
          go_ret2
          refine ⟨_, by rw [HE.out]; rfl, ?_, HB.out⟩
          rw [HE.out]
          exact HV.out
        · have i0 : ((0 : Int) < (n : Int)) := by omega
          obtain ⟨w2, hrng, hit, hb2, hsz2⟩ := HM.out.range (P := Try.prog) Try.underlying57
          have HB2 := Lib.hid hb2
          have HIT := Lib.hid hit
          have HZ := Lib.hid (show w.heap.size ≤ wr.heap.size ∧ wr.heap.size = w2.heap.size - 1 ∧ w.heap.size < wr.heap.size from ⟨by have := HB.out.size; omega, by omega, HM.out.lt⟩)
          clear hb2 hit hsz2
          go_wp2_with fail
          go_loopg [8] (n + 1) (fun g lv wq => ∃ (D : List Int) (x : Int), g + D.length = n + 1 ∧ lv = .int .i64 x ∧ Hid (IMap.Iter wq wr.heap.size w.heap.size n (wM l out) D) ∧ Hid (LeastI (wM l out) D x) ∧ Hid (Below wr.heap.size wr wq))
          case atStart => exact ⟨[], -1, by simp, rfl, HIT.out, LeastI.nil _, HB2.out⟩
          case round =>
            clear HIT HB2 hrng hln
            obtain ⟨D, x, hgD, rfl, HIT, HLI, HBQ⟩ := hrel
            rcases HIT.out.next (P := Try.prog) with ⟨hall, hnx⟩ | ⟨y, v, w', hv, hxD, hlen, hnx, hit, hgr, hsz⟩
            · have hend := HLI.out.end_ hall
              have HIM := Lib.hid HIT.out.im
              have HVQ := Lib.hid (HV.out.below HBQ.out)
              have HBB := Lib.hid (below_in HB.out HBQ.out HB.out.size)
              clear hall
              rcases hend with ⟨rfl, hno⟩ | ⟨h0, hnext⟩
              · have hE : orderL l = ([], 16) := by
                  obtain ⟨n', rfl⟩ : ∃ n', n = n' + 1 := ⟨n - 1, by omega⟩
                  obtain ⟨y, hy⟩ := HM.out.size_pos
                  obtain ⟨h1, h2⟩ := wM_some hy
                  exact HO.out.stuck y h1 h2 hno
                have HE := Lib.hid hE
                clear hE hno
                go_wp2_with fail
                go_ret2
                refine ⟨_, by rw [HE.out]; rfl, ?_, HBB.out⟩
                rw [HE.out]
                exact OwnS.nil _ _ _ _
              · have HNX := Lib.hid hnext
                have hfr := wM_free.2 ⟨hnext.node, hnext.free⟩
                obtain ⟨w3, hdel, hid3, hn3, hg3⟩ := HIM.out.delete (P := Try.prog) Try.underlying57 Try.underlying3 3 0 x (by rw [hfr]; rfl)
                have hx1 : ¬ (x < 0) := by omega
                have HID := Lib.hid (hid3.congr (m' := dM l out x 0) (fun y => by rw [dM_zero]))
                have HV3 := Lib.hid (HVQ.out.grown hg3 (fun j hj e' => HNE.out j hj (Option.some.inj e')))
                have HB3 := Lib.hid (HBB.out.grown hg3 HBB.out.size (fun j hj => by cases hj; exact Nat.le_refl _))
                have hHB := HB3.out.size
                clear hfr hid3 hn3 hg3 HVQ HBB hnext h0 HIM
                go_wp2_with (at_builtin; refine OwnS.wp_append rfl _ _ 27 rfl 3 (.int .i64 0) 1 8 Try.underlying27 (by kernel_rfl) rfl (by omega) (by omega) w.heap.size out.length _ (out.map (Value.int .i64)) rfl (HV3.out.alloc _) ⟨w3.heap.size, 0, none⟩ 1 [.int .i64 x] rfl rfl (box_cells _ #[.int .i64 x] 3 _ rfl) (by simp [Value.oneCell']) (by omega) (by simp; omega) ?_)
                intro v' w4 ho4 hg4 hor4
                have HO4 := Lib.hid (show OwnS 3 1 w4 w.heap.size v' (out ++ [x]).length ((out ++ [x]).map (Value.int .i64)) by simpa using ho4)
                have HB4 := Lib.hid ((HB3.out.alloc HB3.out.size (.cells #[.int .i64 x] 3)).grown hg4 (by simp; omega) (fun j hj => (HV3.out.block hj).1))
                have HI4 := Lib.hid ((HID.out.alloc (.cells #[.int .i64 x] 3)).kept hg4 (fun e' => HNE.out w.heap.size e'.symm rfl))
                have HNE4 : Hid (∀ j, v'.ownBlock = some j → j ≠ w.heap.size) := fun j hj e' => by
                  rcases hor4 with h | ⟨k2, h2, h3⟩
                  · exact HNE.out j (h ▸ hj) e'
                  · rw [hj] at h2; cases h2
                    try simp at h3
                    omega
                obtain ⟨A4, c4, rfl, _, _⟩ := ho4.slice
                clear ho4 hg4 hor4 HB3 HV3 HID
                go_wp2_with fail
                go_loopw [63] (fun i wq => ∃ k : Nat, k ≤ l.length ∧ i = .int .i64 k ∧ Hid (∃ n, IMap.IM wq w.heap.size n (dM l out x k)) ∧ Hid (Below w.heap.size w wq) ∧ Hid (OwnS 3 1 wq w.heap.size (.slice A4 (out.length + 1) c4) (out ++ [x]).length ((out ++ [x]).map (Value.int .i64)))) (fun i _ => l.length - (intOf i).toNat)
                case atStart => exact ⟨0, Nat.zero_le _, rfl, ⟨_, HI4.out⟩, HB4.out, HO4.out⟩
                case round =>
                  clear HI4 HB4 HO4 HM HV HB HIT HLI HBQ
                  obtain ⟨k, hk, rfl, HM, HB, HV⟩ := hrel
                  by_cases hlt : k < l.length
                  · have i1 : ((k : Int) < (l.length : Int)) := by omega
                    obtain ⟨a, rfl⟩ := HL.out.addr hlt
                    obtain ⟨c0, c1, c2, c3⟩ := HL.out.at_ HB.out hlt
                    obtain ⟨n4, hn⟩ := HM.out
                    obtain ⟨W0, hW0⟩ : ∃ W0, W0 = wr.alloc (.cells #[.int .i64 (edAt l k).id, .int .i64 (edAt l k).src, .int .i64 (edAt l k).dst, .int .i64 (edAt l k).cost] 42) := ⟨_, rfl⟩
                    have hn0 : IMap.IM W0 w.heap.size n4 (dM l out x k) := by rw [hW0]; exact hn.alloc _
                    have HN0 := Lib.hid hn0
                    have HB0 : Hid (Below w.heap.size w W0) := by rw [hW0]; exact HB.out.alloc HB.out.size _
                    have HV0 : Hid (OwnS 3 1 W0 w.heap.size (.slice A4 (out.length + 1) c4) (out ++ [x]).length ((out ++ [x]).map (Value.int .i64))) := by rw [hW0]; exact HV.out.alloc _
                    by_cases hp : (edAt l k).src = x
                    · obtain ⟨v, hvl, hlv, hup⟩ := dM_take hlt HO.out HNX.out hp
                      have hlk : (Instr.lookup 57 (.map (some w.heap.size)) (.int .i64 (edAt l k).dst) false).run Try.prog W0 = .ok ((dM l out x k (edAt l k).dst).getD (.int .i64 0)) W0 := hn0.lookup Try.underlying57 Try.underlying3 (by kernel_rfl) _
                      rw [hlv] at hlk
                      simp only [Option.getD_some] at hlk
                      rw [hW0] at hlk
                      have hp' : ((edAt l k).src == x) = true := by simp [hp]
                      have HUP := Lib.hid hup
                      clear hn hn0 HM HB HV hp hlv hup
                      subst hW0
                      go_wp2_with (at_mapUpdate; refine wp_update' _ rfl _ _ _ 57 rfl 3 3 Try.underlying57 Try.underlying3 w.heap.size n4 _ rfl HN0.out (edAt l k).dst (.int .i64 v) rfl rfl ?_)
                      intro W1 n5 hi1 hg1
                      have HI1 : Hid (∃ n, IMap.IM W1 w.heap.size n (dM l out x (k + 1))) := ⟨_, hi1.congr (fun y => (HUP.out y).symm)⟩
                      have HB1 := Lib.hid (HB0.out.grown hg1 HB0.out.size (fun j hj => by cases hj; exact Nat.le_refl _))
                      have HV1 := Lib.hid (HV0.out.grown hg1 (fun j hj e' => HNE4.out j hj (Option.some.inj e')))
                      clear hi1 hg1 hlk HN0 HB0 HV0 c0 c1 c2 c3
                      go_wp2_with fail
                      go_roundw
                      case rel => exact ⟨k + 1, by omega, by go_num, HI1.out, HB1.out, HV1.out⟩
                      case measure => simp [intOf]; omega
                    · have hp' : ((edAt l k).src == x) = false := by simp [hp]
                      have HI1 : Hid (∃ n, IMap.IM W0 w.heap.size n (dM l out x (k + 1))) := ⟨_, hn0.congr (fun y => dM_skip hlt hp y)⟩
                      clear hn hn0 HN0 HM HB HV hp
                      subst hW0
                      go_wp2_with fail
                      go_roundw
                      case rel => exact ⟨k + 1, by omega, by go_num, HI1.out, HB0.out, HV0.out⟩
                      case measure => simp [intOf]; omega
                  · have hkl : k = l.length := by omega
                    have i1 : ¬ ((k : Int) < (l.length : Int)) := by omega
                    have HD : Hid (∃ n, IMap.IM wr w.heap.size n (wM l (out ++ [x]))) := by
                      obtain ⟨n4, hn⟩ := HM.out
                      rw [hkl] at hn
                      exact ⟨n4, hn.congr (fun y => (dM_all l out x y).symm)⟩
                    have hlt2 := HO.out.lt HNX.out
                    have HO5 := Lib.hid (HO.out.snoc HNX.out)
                    clear HM hkl
                    go_wp2_with fail
                    go_roundg ((nodesL l).length - (out.length + 1))
                    case measure => omega
                    case rel =>
                      obtain ⟨n5, hn5⟩ := HD.out
                      exact ⟨out ++ [x], n5, by simp; omega, HO5.out, hn5, HV.out, HNE4.out, HB.out⟩
            · have hvx : ∃ v0 : Nat, v = .int .i64 v0 ∧ v0 ≤ 200 ∧ 0 ≤ y := by
                have h1 := wM_some (l := l) (out := out) (n := y) (by rw [hv]; rfl)
                have h2 := HR.out.nodes y h1.1
                unfold wM at hv
                rw [if_pos h1] at hv
                have h3 := cnt_le l out y
                exact ⟨_, (Option.some.inj hv).symm, by omega, h2.1⟩
              obtain ⟨v0, rfl, hv2, hy0⟩ := hvx
              have hen := hit.entry (P := Try.prog) hv
              have HBN := Lib.hid (HBQ.out.grown hgr HBQ.out.size (fun j hj => by cases hj; exact Nat.le_refl _))
              have HIN := Lib.hid hit
              have hcase : (v0 ≠ 0 ∧ Hid (LeastI (wM l out) (D ++ [y]) x)) ∨ (v0 = 0 ∧ x < 0 ∧ Hid (LeastI (wM l out) (D ++ [y]) y)) ∨ (v0 = 0 ∧ ¬ x < 0 ∧ y < x ∧ Hid (LeastI (wM l out) (D ++ [y]) y)) ∨ (v0 = 0 ∧ ¬ x < 0 ∧ ¬ y < x ∧ Hid (LeastI (wM l out) (D ++ [y]) x)) := by
                by_cases h0 : v0 = 0
                · subst h0
                  by_cases h1 : x < 0
                  · exact .inr (.inl ⟨rfl, h1, HLI.out.take hv hy0 (.inl h1)⟩)
                  · by_cases h2 : y < x
                    · exact .inr (.inr (.inl ⟨rfl, h1, h2, HLI.out.take hv hy0 (.inr h2)⟩))
                    · exact .inr (.inr (.inr ⟨rfl, h1, h2, HLI.out.keep h1 h2⟩))
                · exact .inl ⟨h0, HLI.out.skip (by rw [hv]; simp; omega)⟩
              clear hit hgr hsz hv
              cases gk with
              | zero => exact absurd hgD (by omega)
              | succ k1 =>
                rcases hcase with ⟨h1, G⟩ | ⟨rfl, h1, G⟩ | ⟨rfl, h1, h2, G⟩ | ⟨rfl, h1, h2, G⟩
                case' inl => have t1 : ((v0 : Int) == 0) = false := by simp; omega
                all_goals
                  go_wp2_with fail
                  go_roundg k1
                  case measure => omega
                  case rel => exact ⟨D ++ [y], _, by simp; omega, rfl, HIN.out, G.out, HBN.out⟩
end Go.Proofs.Ytmnkgcnhmkggkaa
