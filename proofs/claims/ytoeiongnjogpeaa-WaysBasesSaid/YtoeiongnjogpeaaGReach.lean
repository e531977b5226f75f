/- Proved here: the function Reach of the package graph. Conditions stand in the theorem. -/
import Derived.Test.YtoeiongnjogpeaaAdj
import Derived.Test.YtoeiongnjogpeaaKeysAll
import Derived.Test.YtoeiongnjogpeaaClone
import Derived.Maps.Own
import Derived.Deep.RegionHeld3
namespace Go.Proofs.Ytoeiongnjogpeaa
open Go.RowKit
/-- What graph.Reach returns: the least set that holds from_ and is shut, ascending. -/
structure RS5 (l : List Edge) (from_ ss : List Int) : Prop where
  sorted : ss.Pairwise (· < ·)
  sub : ∀ x ∈ from_, x ∈ ss
  closed : ∀ e ∈ l, e.src ∈ ss → e.dst ∈ ss
  sound : ∀ T : Int → Prop, (∀ y ∈ from_, T y) → (∀ e ∈ l, T e.src → T e.dst) → ∀ x ∈ ss, T x
set_option maxRecDepth 100000 in
set_option maxHeartbeats 8000000 in
theorem greach_any (A F : Option Addr) (c d : Nat) (l : List Edge) (from_ : List Int) (w : World) (hl : RdE w A l) (hf : RdI w F from_) (h200 : l.length ≤ 1000) (hfr : from_.length ≤ 10000)
    (hrf : ∀ x ∈ from_, -9223372036854775808 ≤ x ∧ x ≤ 9223372036854775807) (hrd : ∀ e ∈ l, -9223372036854775808 ≤ e.dst ∧ e.dst ≤ 9223372036854775807) :
    Calls Try.prog 67 #[.slice A l.length c, .slice F from_.length d] w fun e w' => ∃ v ss, e = .returned v ∧ OwnS 3 1 w' w.heap.size v ss.length (ss.map (Value.int .i64)) ∧ RS5 l from_ ss ∧ Below w.heap.size w w' := by
  have hm := hl.1
  have HL := Lib.hid hl
  have HF := Lib.hid hf
  have HRF := Lib.hid hrf
  have HRD := Lib.hid hrd
  clear hl hf hrf hrd
  have hmm := @run_makeMap Try.prog
  go_enter Try.func67, Try.ntmps67
  go_wp2_with fail
  clear hmm
  go_loopw [14] (fun i wr => ∃ (k n : Nat) (m : Int → Option Value), k ≤ l.length ∧ i = .int .i64 k ∧ Hid (NX w wr w.heap.size n m (l.take k))) (fun i _ => l.length - (intOf i).toNat)
  case atStart => exact ⟨0, 0, fun _ => none, Nat.zero_le _, rfl, NX.made w⟩
  case round =>
    obtain ⟨k, n, m, hk, rfl, HI⟩ := hrel
    by_cases hlt : k < l.length
    · have i1 : ((k : Int) < (l.length : Int)) := by omega
      obtain ⟨a, rfl⟩ := HL.out.addr hlt
      obtain ⟨x0, x1, x2, x3⟩ := HL.out.at_ HI.out.below hlt
      go_wp2_with fail
      obtain ⟨W0, hW0⟩ : ∃ W0, W0 = wr.alloc (.cells #[.int .i64 (edAt l k).id, .int .i64 (edAt l k).src, .int .i64 (edAt l k).dst, .int .i64 (edAt l k).cost] 94) := ⟨_, rfl⟩
      have y1 : W0.cell? ⟨wr.heap.size, 1, none⟩ = some (.int .i64 (edAt l k).src) := by rw [hW0]; exact box_cell _ _ _ _ _ rfl
      have y2 : W0.cell? ⟨wr.heap.size, 2, none⟩ = some (.int .i64 (edAt l k).dst) := by rw [hW0]; exact box_cell _ _ _ _ _ rfl
      have HH : Hid (∀ j, ((m (edAt l k).src).getD nilV).ownBlock = some j → j < wr.heap.size) := fun j hj => ((HI.out.own _).block hj).2.1
      have HI0 : Hid (NX w W0 w.heap.size n m (l.take k)) := by rw [hW0]; exact HI.out.of_below (box_below _ _)
      rw [← hW0]
      obtain ⟨H, hH⟩ : ∃ H, H = wr.heap.size := ⟨_, rfl⟩
      rw [← hH] at y1 y2 HH ⊢
      have hHb : w.heap.size ≤ H ∧ H < W0.heap.size ∧ w.heap.size < H := by
        have := HI.out.im.lt
        have := HI.out.below.size
        rw [hW0, hH]
        simp
        omega
      clear hW0 HI x0 x1 x2 x3 hH
      have hlk1 : (Instr.lookup 114 (.map (some w.heap.size)) (.int .i64 (edAt l k).src) false).run Try.prog W0.drew = .ok ((m (edAt l k).src).getD nilV) W0.drew := HI0.out.im.drew.lookup Try.underlying114 Try.underlying3 (by kernel_rfl) _
      have hlk2 : (Instr.lookup 114 (.map (some w.heap.size)) (.int .i64 (edAt l k).src) false).run Try.prog (W0.alloc (.cells #[.int .i64 (edAt l k).dst] 3)).drew = .ok ((m (edAt l k).src).getD nilV) (W0.alloc (.cells #[.int .i64 (edAt l k).dst] 3)).drew := (HI0.out.im.alloc _).drew.lookup Try.underlying114 Try.underlying3 (by kernel_rfl) _
      have z1 : (W0.alloc (.cells #[.int .i64 (edAt l k).dst] 3)).drew.cell? ⟨H, 1, none⟩ = some (.int .i64 (edAt l k).src) := (World.cell?_alloc_some _ _ _ (by rw [y1]; rfl)).trans y1
      have z2 : (W0.alloc (.cells #[.int .i64 (edAt l k).dst] 3)).drew.cell? ⟨H, 2, none⟩ = some (.int .i64 (edAt l k).dst) := (World.cell?_alloc_some _ _ _ (by rw [y2]; rfl)).trans y2
      have HZ : Hid (w.heap.size ≤ W0.heap.size ∧ w.heap.size ≤ H ∧ H < W0.heap.size ∧ w.heap.size < H) := ⟨HI0.out.below.size, hHb⟩
      have hsl : (succL (l.take k) (edAt l k).src).length ≤ 1000 := by
        unfold succL
        rw [List.length_map]
        have := List.length_filter_le (fun e : Edge => e.src == (edAt l k).src) (l.take k)
        rw [List.length_take] at this
        omega
      go_region_held3 (fun W : World => W.cell? ⟨H, 1, none⟩ = some (.int .i64 (edAt l k).src) ∧ W.cell? ⟨H, 2, none⟩ = some (.int .i64 (edAt l k).dst)) (first | exact ⟨y1, y2⟩ | exact ⟨z1, z2⟩ | exact ⟨q1, q2⟩ | exact ⟨q3, q4⟩)
        (first | (refine OwnS.step_append rfl _ _ 25 rfl 3 (.int .i64 0) 1 8 Try.underlying25 (by kernel_rfl) rfl (by omega) (by omega) w.heap.size (succL (l.take k) (edAt l k).src).length _ ((succL (l.take k) (edAt l k).src).map (Value.int .i64)) rfl (((HI0.out.own (edAt l k).src).alloc _).drew) ⟨W0.heap.size, 0, none⟩ 1 [.int .i64 (edAt l k).dst] rfl rfl (box_cells _ #[.int .i64 (edAt l k).dst] 3 _ rfl) (by simp [Value.oneCell']) (by omega) (by have := HZ.out; simp [World.drew]; omega) ?_
                  intro v' w2 ho2 hg2 hor2
                  have hHne : ∀ j, ((m (edAt l k).src).getD nilV).ownBlock = some j → j ≠ H := fun j hj => Nat.ne_of_lt (HH.out j hj)
                  have hHeq : w2.heap[H]? = (W0.alloc (.cells #[.int .i64 (edAt l k).dst] 3)).drew.heap[H]? := hg2.block H (by have := HZ.out; simp [World.drew]; omega) (fun e' => hHne H e'.symm rfl)
                  have q1 : w2.cell? ⟨H, 1, none⟩ = some (.int .i64 (edAt l k).src) := (World.cell?_of_block hHeq).trans z1
                  have q2 : w2.cell? ⟨H, 2, none⟩ = some (.int .i64 (edAt l k).dst) := (World.cell?_of_block hHeq).trans z2
                  have hia : NX w (W0.alloc (.cells #[.int .i64 (edAt l k).dst] 3)).drew w.heap.size n m (l.take k) := HI0.out.of_below (box_below _ _).drew
                  have him2 : IMap.IM w2 w.heap.size n m := hia.im.kept hg2 (fun e' => by obtain ⟨es, ck, hbm, _⟩ := hia.im; exact (hia.own _).not_map hbm e'.symm rfl)
                  obtain ⟨W3, hup, hi3, hg3⟩ := him2.update (P := Try.prog) Try.underlying114 Try.underlying3 (edAt l k).src v'
                  have hHeq3 : W3.heap[H]? = w2.heap[H]? := hg3.block H (by have := HZ.out; have := hg2.size; simp [World.drew] at this; omega) (fun e' => by have := HZ.out; cases e'; omega)
                  have q3 : W3.cell? ⟨H, 1, none⟩ = some (.int .i64 (edAt l k).src) := (World.cell?_of_block hHeq3).trans q1
                  have q4 : W3.cell? ⟨H, 2, none⟩ = some (.int .i64 (edAt l k).dst) := (World.cell?_of_block hHeq3).trans q2
                  have HNX := Lib.hid (HI0.out.step (edAt l k) (box_below _ _).drew ho2 hg2 hor2 hi3 hg3)
                  clear hHne hHeq hHeq3 hia him2 ho2 hor2 hi3))
      all_goals
        go_wp2_with fail
        go_roundw
        case rel => exact ⟨k + 1, _, _, by omega, by go_num, by rw [List.take_add_one, edAt_eq hlt]; exact HNX.out⟩
        case measure => simp [intOf]; omega
    · have hkl : k = l.length := by omega
      subst hkl
      rw [List.take_length] at HI
      have i1 : ¬ ((l.length : Int) < (l.length : Int)) := by omega
      have hmm := @run_makeMap Try.prog
      go_wp2_with fail
      have HI1 : Hid (NX w (wr.alloc (.map #[] 0)) w.heap.size n m l) := HI.out.of_below ((Below.refl _ _).alloc (Nat.le_refl _) _)
      have HS1 : Hid (IMap.IM (wr.alloc (.map #[] 0)) wr.heap.size 0 (fun _ => none)) := IMap.IM.made wr
      have HB : Hid (w.heap.size < wr.heap.size) := HI.out.im.lt
      have HCL := Lib.hid (clone_any F d from_ (wr.alloc (.map #[] 0)) (HF.out.below HI1.out.below) (by omega))
      clear hmm HI
      refine HCL.out.mono ?_
      rintro e w1 ⟨v, rfl, ho, hb⟩
      obtain ⟨A1, c1, rfl, _, _⟩ := ho.slice
      have HX : Hid (SX l w w1 w.heap.size wr.heap.size n 0 m [] from_ (.slice A1 from_.length c1)) := by
        have hn1 := HI1.out.of_below hb
        refine ⟨hn1, (HS1.out.below hb HS1.out.lt).congr (fun k => by simp [seenM]), ⟨Nat.le_of_lt HB.out, Nat.ne_of_gt HB.out⟩, ho.mono HI1.out.below.size, fun k j hj hj' => ?_⟩
        have h1 := ((HI1.out.own k).block hj).2.1
        have h2 := (ho.block hj').1
        omega
      obtain ⟨bs, hbs⟩ : ∃ bs, bs = wr.heap.size := ⟨_, rfl⟩
      rw [← hbs] at HX ⊢
      clear HI1 HS1 HB HCL ho hb hbs
      go_wp2_with fail
      go_loopg [9] (from_.length + l.length) (fun g sv wr => ∃ (ns : Nat) (S xs : List Int), g = xs.length + openE l S ∧ ns + g ≤ from_.length + l.length ∧ Hid (SX l w wr w.heap.size bs n ns m S xs sv) ∧ Hid (RX l from_ S xs))
      case atStart => exact ⟨0, [], from_, by rw [openE_start], by omega, HX.out, RX.start l from_⟩
      case round =>
        clear HX
        obtain ⟨ns, S, xs, hg, hns, HX, HR⟩ := hrel
        rcases List.eq_nil_or_concat xs with hxs | ⟨ys, x, hxs⟩
        · subst hxs
          obtain ⟨A1, c1, rfl, _, _⟩ := HX.out.stk.slice
          go_wp2_with fail
          have hrange : ∀ x, (seenM S x).isSome = true → -9223372036854775808 ≤ x ∧ x ≤ 9223372036854775807 := fun x hx => by
            refine HR.out.sound (fun y => -9223372036854775808 ≤ y ∧ y ≤ 9223372036854775807) HRF.out (fun e he _ => HRD.out e he) x (.inl ?_)
            unfold seenM at hx
            split at hx
            · assumption
            · cases hx
          have HSO := Lib.hid (sorted_any bs ns (seenM S) wr HX.out.seen hrange (by omega))
          have HBE := Lib.hid HX.out.nx.below
          clear hrange
          refine (keys_any bs wr).mono ?_
          rintro e w2 ⟨rfl, rfl⟩
          go_wp2_with fail
          refine HSO.out.mono ?_
          rintro e w3 ⟨v, ss, rfl, hmem, hsorted, ho3, hb3⟩
          have hm5 : ∀ x, x ∈ ss ↔ x ∈ S := fun x => by
            rw [hmem x]
            unfold seenM
            split <;> simp [*]
          have HRS : Hid (RS5 l from_ ss) := ⟨hsorted, fun x hx => (hm5 x).2 ((HR.out.sub x hx).elim id (fun h => by simp at h)),
            fun e he hs => (hm5 _).2 ((HR.out.closed e he ((hm5 _).1 hs)).elim id (fun h => by simp at h)), fun T h1 h2 x hx => HR.out.sound T h1 h2 x (.inl ((hm5 x).1 hx))⟩
          have HO3 := Lib.hid (ho3.mono HBE.out.size)
          have HB3 := Lib.hid (below_in HBE.out hb3 HBE.out.size)
          obtain ⟨A3, c3, rfl, _, _⟩ := ho3.slice
          clear hm5 hmem hsorted ho3 hb3
          go_wp2_with fail
          go_ret
          exact ⟨_, ss, rfl, HO3.out, HRS.out, HB3.out⟩
        · rw [List.concat_eq_append] at hxs
          subst hxs
          have hstk := HX.out.stk
          have hl1 : (ys ++ [x]).length = ys.length + 1 := by simp
          rw [hl1, List.map_append, List.map_cons, List.map_nil] at hstk
          obtain ⟨i3, hi3, _, hi3s, _⟩ := info_parts (P := Try.prog) (e := 3) (z := .int .i64 0) (size := 1) (bytes := 8) (by kernel_rfl)
          obtain ⟨v', hcut, ho', hbk⟩ := hstk.init (P := Try.prog) Try.underlying25 hi3 .i64
          obtain ⟨A1, c1, rfl, _, _⟩ := hstk.slice
          obtain ⟨A2, c2, rfl, _, _⟩ := ho'.slice
          obtain ⟨g0, o0, rfl, hcell, _⟩ := hstk.cell (j := ys.length) (u := .int .i64 x) (by simp)
          have hlks : (Instr.lookup 115 (.map (some bs)) (.int .i64 x) false).run Try.prog wr = .ok ((seenM S x).getD (.bool false)) wr := HX.out.seen.lookup Try.underlying115 Try.underlying3 (by kernel_rfl) _
          by_cases hxS : x ∈ S
          · have e1 : (seenM S x).getD (.bool false) = .bool true := by simp [seenM, hxS]
            rw [e1] at hlks
            have HX2 : Hid (SX l w wr w.heap.size bs n ns m S ys (.slice A2 ys.length c2)) := ⟨HX.out.nx, HX.out.seen, HX.out.bsb, ho', fun k j hj hj' => HX.out.ne k j hj (hbk ▸ hj')⟩
            have HR2 := Lib.hid (HR.out.skip hxS)
            rw [hl1] at hg
            clear HX HR hstk ho' hbk hxS e1 hl1 hi3 hi3s
            go_wp2_with fail
            go_roundg (ys.length + openE l S)
            case measure => omega
            case rel => exact ⟨ns, S, ys, rfl, by omega, HX2.out, HR2.out⟩
          · have e1 : (seenM S x).getD (.bool false) = .bool false := by simp [seenM, hxS]
            rw [e1] at hlks
            have HX2 : Hid (SX l w wr w.heap.size bs n ns m S ys (.slice A2 ys.length c2)) := ⟨HX.out.nx, HX.out.seen, HX.out.bsb, ho', fun k j hj hj' => HX.out.ne k j hj (hbk ▸ hj')⟩
            have HR2 := Lib.hid HR.out.visit
            rw [hl1] at hg
            have hop := openE_visit hxS l
            have hnone : (seenM S x).isSome = false := by simp [seenM, hxS]
            clear HX HR hstk ho' hbk e1 hl1 hi3 hi3s
            go_wp2_with (at_mapUpdate; refine IMap.wp_update _ rfl _ _ _ 115 rfl 3 4 Try.underlying115 Try.underlying3 bs ns _ rfl HX2.out.seen x (.bool true) rfl rfl ?_)
            intro W1 hi1 hg1
            have hi1' : IMap.IM W1 bs (ns + 1) (IMap.upd (seenM S) x (some (.bool true))) := by simpa [hnone] using hi1
            have hs1 : IMap.IM W1 bs (ns + 1) (seenM (x :: S)) := hi1'.congr (fun k => by
              unfold IMap.upd seenM
              by_cases hk : k = x
              · simp [hk]
              · simp [hk])
            obtain ⟨es, ck, hbs, _⟩ := HX2.out.seen
            have hnx1 : NX w W1 w.heap.size n m l := HX2.out.nx.grown hg1 (fun j hj => by cases hj; exact HX2.out.bsb.1) (fun e' => HX2.out.bsb.2 (by cases e'; rfl)) (fun k j hj e' => (HX2.out.nx.own k).not_map hbs hj (by cases e'; rfl))
            have hst1 : OwnS 3 1 W1 w.heap.size (.slice A2 ys.length c2) ys.length (ys.map (Value.int .i64)) := HX2.out.stk.grown hg1 (fun j hj e' => HX2.out.stk.not_map hbs hj (by cases e'; rfl))
            have hlkn : (Instr.lookup 114 (.map (some w.heap.size)) (.int .i64 x) false).run Try.prog W1 = .ok ((m x).getD nilV) W1 := hnx1.im.lookup Try.underlying114 Try.underlying3 (by kernel_rfl) _
            have HNX1 := Lib.hid hnx1
            have HST1 := Lib.hid hst1
            have HS1 := Lib.hid hs1
            have HSZ := Lib.hid hnx1.below.size
            clear hi1 hi1' hg1 hnx1 hst1 hs1 hbs hnone hlks
            go_wp2_with (at_builtin; refine OwnS.wp_append_slice rfl _ _ 25 rfl 3 (.int .i64 0) 8 Try.underlying25 (by kernel_rfl) rfl (by omega) w.heap.size ys.length _ (ys.map (Value.int .i64)) rfl HST1.out w.heap.size (succL l x).length _ ((succL l x).map (Value.int .i64)) rfl (HNX1.out.own x) (fun y hy => by obtain ⟨z, _, rfl⟩ := List.mem_map.1 hy; rfl) (by omega) HSZ.out ?_)
            intro v2 W2 ho2 hg2 hor2
            obtain ⟨A4, c4, rfl, _, _⟩ := ho2.slice
            have hx3 : SX l w W2 w.heap.size bs n (ns + 1) m (x :: S) (ys ++ succL l x) (.slice A4 (ys.length + (succL l x).length) c4) := by
              obtain ⟨es1, ck1, hbs1, _⟩ := HS1.out
              obtain ⟨es2, ck2, hbm1, _⟩ := HNX1.out.im
              refine ⟨HNX1.out.grown hg2 (fun j hj => (HST1.out.block hj).1) (fun e' => HST1.out.not_map hbm1 e'.symm rfl) (fun k j hj e' => HX2.out.ne k j hj e'.symm), HS1.out.kept hg2 (fun e' => HST1.out.not_map hbs1 e'.symm rfl), HX2.out.bsb, ?_, fun k j hj hj' => ?_⟩
              · rw [List.length_append, List.map_append]
                exact ho2
              · rcases hor2 with h' | ⟨k2, h2, h3⟩
                · exact HX2.out.ne k j hj (h' ▸ hj')
                · rw [hj'] at h2
                  cases h2
                  have := ((HNX1.out.own k).block hj).2.1
                  omega
            have HX3 := Lib.hid hx3
            clear hx3 ho2 hg2 hor2 HNX1 HST1 HS1 HX2
            go_wp2_with fail
            go_roundg (ys.length + openE l S)
            case measure => omega
            case rel => exact ⟨ns + 1, x :: S, ys ++ succL l x, by rw [List.length_append]; omega, by omega, HX3.out, HR2.out⟩
end Go.Proofs.Ytoeiongnjogpeaa
