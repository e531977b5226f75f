/- Proved here: the function Right of the package graph, and the reference function Right of chapter 05. Condition: the slice reads as edges. -/
import Derived.Test.YtmnkgcnhmkggkaaGReach
namespace Go.Proofs.Ytmnkgcnhmkggkaa
open Go.RowKit
def EdgeOk (e : Edge) : Prop := 0 ≤ e.src ∧ e.src ≤ 9999 ∧ 0 ≤ e.dst ∧ e.dst ≤ 9999 ∧ 0 ≤ e.cost ∧ e.cost ≤ 1000000
instance (e : Edge) : Decidable (EdgeOk e) := by unfold EdgeOk; infer_instance
/-- The edges are accepted. -/
structure Right (l : List Edge) : Prop where
  len : l.length ≤ 200
  ok : ∀ e ∈ l, EdgeOk e
  ids : ∀ i j, i < j → j < l.length → (edAt l i).id ≠ (edAt l j).id
theorem edAt_mem {l : List Edge} {k : Nat} (h : k < l.length) : edAt l k ∈ l := List.mem_of_getElem? (edAt_eq h)
theorem mem_edAt {l : List Edge} {e : Edge} (h : e ∈ l) : ∃ k, k < l.length ∧ edAt l k = e := by
  obtain ⟨k, hk, he⟩ := List.mem_iff_getElem.1 h
  refine ⟨k, hk, ?_⟩
  have := edAt_eq hk
  rw [List.getElem?_eq_getElem hk, he] at this
  exact (Option.some.inj this).symm
def goE : List Int → List Edge → Int
  | _, [] => 0
  | S, e :: es => if EdgeOk e then (if e.id ∈ S then 7 else goE (S ++ [e.id]) es) else 2
def errL (l : List Edge) : Int := if l.length ≤ 200 then goE [] l else 4
def idsL (l : List Edge) : List Int := l.map (·.id)
theorem drop_ed {l : List Edge} {k : Nat} (h : k < l.length) : l.drop k = edAt l k :: l.drop (k + 1) := by
  rw [List.drop_eq_getElem_cons h]
  congr 1
  have := edAt_eq h
  rw [List.getElem?_eq_getElem h] at this
  exact Option.some.inj this
theorem ids_take {l : List Edge} {k : Nat} (h : k < l.length) : idsL (l.take (k + 1)) = idsL (l.take k) ++ [(edAt l k).id] := by
  unfold idsL; rw [take_ed h, List.map_append]; rfl
theorem goE_zero : ∀ (l : List Edge) (S : List Int), goE S l = 0 → (∀ e ∈ l, EdgeOk e) ∧ (∀ e ∈ l, e.id ∉ S) ∧ (idsL l).Nodup
  | [], _, _ => ⟨by simp, by simp, by simp [idsL]⟩
  | e :: es, S, h => by
    unfold goE at h
    split at h
    · rename_i h1
      split at h
      · simp at h
      · rename_i h2
        obtain ⟨a, b, c⟩ := goE_zero es _ h
        refine ⟨fun x hx => ?_, fun x hx => ?_, ?_⟩
        · rcases List.mem_cons.1 hx with rfl | hx
          · exact h1
          · exact a x hx
        · rcases List.mem_cons.1 hx with rfl | hx
          · exact h2
          · exact fun hs => b x hx (List.mem_append_left _ hs)
        · unfold idsL
          rw [List.map_cons, List.nodup_cons]
          refine ⟨fun hm => ?_, c⟩
          obtain ⟨y, hy, he⟩ := List.mem_map.1 hm
          exact b y hy (by rw [he]; simp)
    · simp at h
theorem errL_zero {l : List Edge} (h : errL l = 0) : Right l := by
  unfold errL at h
  split at h
  · rename_i hl
    obtain ⟨a, b, c⟩ := goE_zero l [] h
    refine ⟨hl, a, fun i j hij hj he => ?_⟩
    have := List.pairwise_iff_getElem.1 c i j (by simp [idsL]; omega) (by simp [idsL]; omega) hij
    apply this
    simp only [idsL, List.getElem_map]
    have e1 := edAt_eq (l := l) (k := i) (by omega)
    have e2 := edAt_eq (l := l) (k := j) hj
    rw [List.getElem?_eq_getElem (by omega)] at e1 e2
    rw [Option.some.inj e1, Option.some.inj e2]
    exact he
  · simp at h
theorem goE_ok : ∀ (l : List Edge) (S : List Int), (∀ e ∈ l, EdgeOk e) → (∀ e ∈ l, e.id ∉ S) → (idsL l).Nodup → goE S l = 0
  | [], _, _, _, _ => rfl
  | e :: es, S, h1, h2, h3 => by
    unfold goE
    rw [if_pos (h1 e (by simp)), if_neg (h2 e (by simp))]
    unfold idsL at h3
    rw [List.map_cons, List.nodup_cons] at h3
    refine goE_ok es _ (fun x hx => h1 x (by simp [hx])) (fun x hx hs => ?_) h3.2
    rcases List.mem_append.1 hs with hs | hs
    · exact h2 x (by simp [hx]) hs
    · simp at hs
      exact h3.1 (List.mem_map.2 ⟨x, hx, hs⟩)
theorem Right.nodup {l : List Edge} (h : Right l) : (idsL l).Nodup := by
  refine List.pairwise_iff_getElem.2 fun i j hi hj hij => ?_
  simp only [idsL, List.length_map] at hi hj
  have := h.ids i j hij hj
  simp only [idsL, List.getElem_map]
  have e1 := edAt_eq (l := l) (k := i) (by omega)
  have e2 := edAt_eq (l := l) (k := j) hj
  rw [List.getElem?_eq_getElem (by omega)] at e1 e2
  rw [Option.some.inj e1, Option.some.inj e2]
  exact this
theorem Right.err {l : List Edge} (h : Right l) : errL l = 0 := by
  unfold errL
  rw [if_pos h.len]
  exact goE_ok l [] h.ok (by simp) h.nodup
theorem bad_cases {e : Edge} (hok : ¬ EdgeOk e) : e.src < 0 ∨ (0 ≤ e.src ∧ 9999 < e.src) ∨ (0 ≤ e.src ∧ e.src ≤ 9999 ∧ e.dst < 0) ∨ (0 ≤ e.src ∧ e.src ≤ 9999 ∧ 0 ≤ e.dst ∧ 9999 < e.dst) ∨
    (0 ≤ e.src ∧ e.src ≤ 9999 ∧ 0 ≤ e.dst ∧ e.dst ≤ 9999 ∧ e.cost < 0) ∨ (0 ≤ e.src ∧ e.src ≤ 9999 ∧ 0 ≤ e.dst ∧ e.dst ≤ 9999 ∧ 0 ≤ e.cost ∧ 1000000 < e.cost) := by
  unfold EdgeOk at hok; omega
set_option maxHeartbeats 2000000 in
/-- The reference's Right. -/
theorem rright_any (A : Option Addr) (c : Nat) (l : List Edge) (w : World) (hl : RdE w A l) :
    Calls Try.prog 13 #[.slice A l.length c] w fun e w' => e = .returned (.int .i64 (errL l)) ∧ Below w.heap.size w w' := by
  have hm := hl.1
  have HL := Lib.hid hl
  clear hl
  by_cases hbig : l.length ≤ 200
  · have HERR := Lib.hid (show goE (idsL (l.take 0)) (l.drop 0) = errL l by simp [errL, hbig, idsL])
    go_enter Try.func13, Try.ntmps13
    go_wp2
    go_loopw [3] (fun i wr => ∃ k : Nat, k ≤ l.length ∧ i = .int .i64 k ∧ Hid (goE (idsL (l.take k)) (l.drop k) = errL l) ∧ Hid (Below w.heap.size w wr)) (fun i _ => l.length - (intOf i).toNat)
    case atStart => exact ⟨0, Nat.zero_le _, rfl, HERR.out, Below.refl _ _⟩
    case round =>
      obtain ⟨k, hk, rfl, HO, HB⟩ := hrel
      by_cases hlt : k < l.length
      · obtain ⟨a, rfl⟩ := HL.out.addr hlt
        obtain ⟨c0, c1, c2, c3⟩ := HL.out.at_ HB.out hlt
        have HO' := Lib.hid (show (if EdgeOk (edAt l k) then (if (edAt l k).id ∈ idsL (l.take k) then 7 else goE (idsL (l.take (k + 1))) (l.drop (k + 1))) else 2) = errL l by
          have := HO.out
          rw [drop_ed hlt] at this
          unfold goE at this
          rw [ids_take hlt]
          exact this)
        by_cases hok : EdgeOk (edAt l k)
        · have HK := Lib.hid hok
          obtain ⟨o1, o2, o3, o4, o5, o6⟩ := hok
          go_wp2
          go_loopw [5] (fun j wq => ∃ q : Nat, q ≤ k ∧ j = .int .i64 q ∧ Hid (∀ i, i < q → (edAt l i).id ≠ (edAt l k).id) ∧ Hid (Below w.heap.size w wq) ∧ Hid (wq.cell? ⟨wr.heap.size, 0, none⟩ = some (.int .i64 (edAt l k).id))) (fun j _ => k - (intOf j).toNat)
          case atStart => exact ⟨0, Nat.zero_le _, rfl, fun i h => by omega, HB.out.alloc HB.out.size _, box_cell _ _ _ _ _ rfl⟩
          case round =>
            obtain ⟨q, hq, rfl, HJ, HC, HD⟩ := hrel
            by_cases hqlt : q < k
            · have hql : q < l.length := by omega
              clear c0 c1 c2 c3
              have x0 := HD.out
              obtain ⟨d0, _, _, _⟩ := HL.out.at_ HC.out hql
              have i1 : ((k : Int) < (l.length : Int)) := by omega
              have i2 : ((q : Int) < (l.length : Int)) := by omega
              by_cases he : (edAt l q).id = (edAt l k).id
              · have he' : ((edAt l q).id == (edAt l k).id) = true := by simp [he]
                have hin : (edAt l k).id ∈ idsL (l.take k) := by
                  rw [← he]
                  unfold idsL
                  refine List.mem_map.2 ⟨edAt l q, ?_, rfl⟩
                  refine List.mem_iff_getElem?.2 ⟨q, ?_⟩
                  rw [List.getElem?_take, if_pos hqlt]
                  exact edAt_eq hql
                have hret : errL l = 7 := by
                  have := HO'.out
                  rw [if_pos HK.out, if_pos hin] at this
                  exact this.symm
                have HE := Lib.hid hret
                clear he hret hin
                go_wp2
                go_quiet (fail)
                go_wp2
                go_ret
                exact ⟨by rw [HE.out]; rfl, below_drewN HC.out _⟩
              · have he' : ((edAt l q).id == (edAt l k).id) = false := by simp [he]
                have HE := Lib.hid he
                clear he
                go_wp2
                go_quiet (fail)
                go_wp2
                go_roundw
                case rel => exact ⟨q + 1, by omega, by go_num, fun i hi => by
                  rcases Nat.lt_or_ge i q with h | h
                  · exact HJ.out i h
                  · have : i = q := by omega
                    subst this; exact HE.out, below_drewN HC.out _, HD.out⟩
                case measure => simp [intOf]; omega
            · have hnin : ¬ (edAt l k).id ∈ idsL (l.take k) := fun hin => by
                unfold idsL at hin
                obtain ⟨y, hy, he⟩ := List.mem_map.1 hin
                obtain ⟨i, hi⟩ := List.mem_iff_getElem?.1 hy
                rw [List.getElem?_take] at hi
                split at hi
                · rename_i hik
                  rw [edAt_eq (by omega)] at hi
                  cases hi
                  exact HJ.out i (by omega) he
                · cases hi
              have HN := Lib.hid (show goE (idsL (l.take (k + 1))) (l.drop (k + 1)) = errL l by
                have := HO'.out
                rw [if_pos HK.out, if_neg hnin] at this
                exact this)
              clear hnin
              go_wp2
              go_roundw
              case rel => exact ⟨k + 1, by omega, by go_num, HN.out, HC.out⟩
              case measure => simp [intOf]; omega
        · have HE := Lib.hid (show errL l = 2 by
            have := HO'.out
            rw [if_neg hok] at this
            exact this.symm)
          have hcase := bad_cases hok
          clear hok
          rcases hcase with o1 | ⟨o1, o2⟩ | ⟨o1, o2, o3⟩ | ⟨o1, o2, o3, o4⟩ | ⟨o1, o2, o3, o4, o5⟩ | ⟨o1, o2, o3, o4, o5, o6⟩
          all_goals
            go_wp2
            go_ret
            exact ⟨by rw [HE.out]; rfl, HB.out.alloc HB.out.size _⟩
      · have HE := Lib.hid (show errL l = 0 by
          have := HO.out
          rw [List.drop_of_length_le (by omega)] at this
          exact this.symm)
        go_wp2
        go_ret
        exact ⟨by rw [HE.out]; rfl, HB.out⟩
  · have HE := Lib.hid (show errL l = 4 by unfold errL; rw [if_neg hbig])
    go_enter Try.func13, Try.ntmps13
    go_wp2
    go_ret
    exact ⟨by rw [HE.out]; rfl, Below.refl _ _⟩
theorem makeMap_hint (t k e : TypeId) (kd : IntKind) (n : Int) (ht : Try.prog.underlying t = some (.map k e)) (w : World) :
    (Instr.makeMap t (some (.int kd n))).run Try.prog w = .ok (.map (some w.heap.size)) (w.alloc (.map #[] 0)) := by
  simp [Instr.makeMap, run_underlying ht]; rfl
set_option maxRecDepth 100000 in
set_option maxHeartbeats 2000000 in
/-- The program's Right. -/
theorem gright_any (A : Option Addr) (c : Nat) (l : List Edge) (w : World) (hl : RdE w A l) :
    Calls Try.prog 12 #[.slice A l.length c] w fun e w' => e = .returned (.int .i64 (errL l)) ∧ Below w.heap.size w w' := by
  have hm := hl.1
  have HL := Lib.hid hl
  clear hl
  by_cases hbig : l.length ≤ 200
  · have HERR := Lib.hid (show goE (idsL (l.take 0)) (l.drop 0) = errL l by simp [errL, hbig, idsL])
    have hmk : (Instr.makeMap 48 (some (.int .i64 (l.length : Int)))).run Try.prog w = .ok (.map (some w.heap.size)) (w.alloc (.map #[] 0)) := makeMap_hint _ _ _ _ _ Try.underlying48 w
    go_enter Try.func12, Try.ntmps12
    go_wp2_with fail
    go_loopw [14] (fun i wr => ∃ k : Nat, k ≤ l.length ∧ i = .int .i64 k ∧ Hid (goE (idsL (l.take k)) (l.drop k) = errL l) ∧ Hid (Below w.heap.size w wr) ∧ Hid (∃ n, IMap.IM wr w.heap.size n (seenM (idsL (l.take k))))) (fun i _ => l.length - (intOf i).toNat)
    case atStart => exact ⟨0, Nat.zero_le _, rfl, HERR.out, (Below.refl _ _).alloc (Nat.le_refl _) _, 0, (IMap.IM.made w).congr (fun k => by simp [seenM, idsL])⟩
    case round =>
      clear hmk
      obtain ⟨k, hk, rfl, HO, HB, HM⟩ := hrel
      by_cases hlt : k < l.length
      · obtain ⟨a, rfl⟩ := HL.out.addr hlt
        obtain ⟨c0, c1, c2, c3⟩ := HL.out.at_ HB.out hlt
        have i1 : ((k : Int) < (l.length : Int)) := by omega
        have HO' := Lib.hid (show (if EdgeOk (edAt l k) then (if (edAt l k).id ∈ idsL (l.take k) then 7 else goE (idsL (l.take (k + 1))) (l.drop (k + 1))) else 2) = errL l by
          have := HO.out
          rw [drop_ed hlt] at this
          unfold goE at this
          rw [ids_take hlt]
          exact this)
        by_cases hok : EdgeOk (edAt l k)
        · have HK := Lib.hid hok
          obtain ⟨o1, o2, o3, o4, o5, o6⟩ := hok
          obtain ⟨n, hn⟩ := HM.out
          obtain ⟨W0, hW0⟩ : ∃ W0, W0 = wr.alloc (.cells #[.int .i64 (edAt l k).id, .int .i64 (edAt l k).src, .int .i64 (edAt l k).dst, .int .i64 (edAt l k).cost] 42) := ⟨_, rfl⟩
          have hn0 : IMap.IM W0 w.heap.size n (seenM (idsL (l.take k))) := by rw [hW0]; exact hn.alloc _
          have HN0 := Lib.hid hn0
          have HB0 : Hid (Below w.heap.size w W0) := by rw [hW0]; exact HB.out.alloc HB.out.size _
          have y0 : W0.cell? ⟨wr.heap.size, 0, none⟩ = some (.int .i64 (edAt l k).id) := by rw [hW0]; exact box_cell _ _ _ _ _ rfl
          have hlk : (Instr.lookup 48 (.map (some w.heap.size)) (.int .i64 (edAt l k).id) false).run Try.prog W0 = .ok ((seenM (idsL (l.take k)) (edAt l k).id).getD (.bool false)) W0 := hn0.lookup Try.underlying48 Try.underlying3 (by kernel_rfl) _
          by_cases hin : (edAt l k).id ∈ idsL (l.take k)
          · have e1 : (seenM (idsL (l.take k)) (edAt l k).id).getD (.bool false) = .bool true := by simp [seenM, hin]
            rw [e1] at hlk
            have HE := Lib.hid (show errL l = 7 by
              have := HO'.out
              rw [if_pos HK.out, if_pos hin] at this
              exact this.symm)
            clear hin e1 hn hn0 hk
            rw [hW0] at hlk HB0
            clear y0 hW0
            go_wp2_with fail
            go_ret
            exact ⟨by rw [HE.out]; rfl, HB0.out⟩
          · have e1 : (seenM (idsL (l.take k)) (edAt l k).id).getD (.bool false) = .bool false := by simp [seenM, hin]
            rw [e1] at hlk
            have HN := Lib.hid (show goE (idsL (l.take (k + 1))) (l.drop (k + 1)) = errL l by
              have := HO'.out
              rw [if_pos HK.out, if_neg hin] at this
              exact this)
            have hnone : (seenM (idsL (l.take k)) (edAt l k).id).isSome = false := by simp [seenM, hin]
            clear hin e1 hn hn0
            rw [hW0] at hlk HB0 HN0
            clear y0 hW0
            go_wp2_with (at_mapUpdate; refine IMap.wp_update _ rfl _ _ _ 48 rfl 3 4 Try.underlying48 Try.underlying3 w.heap.size n _ rfl HN0.out (edAt l k).id (.bool true) rfl rfl ?_)
            intro W1 hi1 hg1
            have HI1 : Hid (∃ n, IMap.IM W1 w.heap.size n (seenM (idsL (l.take (k + 1))))) := ⟨_, hi1.congr (fun x => by
              rw [ids_take hlt]
              unfold IMap.upd seenM
              by_cases hx : x = (edAt l k).id
              · simp [hx]
              · simp [hx])⟩
            have HB1 := Lib.hid (HB0.out.grown hg1 HB0.out.size (fun j hj => by cases hj; exact Nat.le_refl _))
            clear hi1 hg1
            go_wp2_with fail
            go_roundw
            case rel => exact ⟨k + 1, by omega, by go_num, HN.out, HB1.out, HI1.out⟩
            case measure => simp [intOf]; omega
        · have HE := Lib.hid (show errL l = 2 by
            have := HO'.out
            rw [if_neg hok] at this
            exact this.symm)
          have hcase := bad_cases hok
          clear hok
          rcases hcase with o1 | ⟨o1, o2⟩ | ⟨o1, o2, o3⟩ | ⟨o1, o2, o3, o4⟩ | ⟨o1, o2, o3, o4, o5⟩ | ⟨o1, o2, o3, o4, o5, o6⟩
          all_goals
            go_wp2
            go_ret
            exact ⟨by rw [HE.out]; rfl, HB.out.alloc HB.out.size _⟩
      · have HE := Lib.hid (show errL l = 0 by
          have := HO.out
          rw [List.drop_of_length_le (by omega)] at this
          exact this.symm)
        have i1 : ¬ ((k : Int) < (l.length : Int)) := by omega
        go_wp2
        go_ret
        exact ⟨by rw [HE.out]; rfl, HB.out⟩
  · have HE := Lib.hid (show errL l = 4 by unfold errL; rw [if_neg hbig])
    go_enter Try.func12, Try.ntmps12
    go_wp2
    go_ret
    exact ⟨by rw [HE.out]; rfl, Below.refl _ _⟩
end Go.Proofs.Ytmnkgcnhmkggkaa
