/- Proved here: Way, of the package ways and of the reference of chapter 11. Condition: the map reads and is right, the list reads. -/
import Derived.Test.YtoeiongnjogpeaaWayCmp
import Derived.Test.YtoeiongnjogpeaaWNeeds
import Derived.Test.YtoeiongnjogpeaaRShort
namespace Go.Proofs.Ytoeiongnjogpeaa
open Go.RowKit
abbrev WSt := List Int × Int × Bool
def stepW (st r : WSt) : WSt := if r.2.2 = false then st else if st.2.2 = false ∨ betterB r.1 r.2.1 st.1 st.2.1 = true then r else st
inductive WaySt (E : List Edge) (u : Int) : List Int → WSt → Prop
  | nil : WaySt E u [] ([], 0, false)
  | snoc (bs : List Int) (b : Int) (st : WSt) (ids : List Int) (n : Int) (ok : Bool) : WaySt E u bs st → ShortR E u b ids n ok → WaySt E u (bs ++ [b]) (stepW st (ids, n, ok))
theorem WaySt.uniq {E : List Edge} {u : Int} {bs : List Int} {x : WSt} (h : WaySt E u bs x) : ∀ {y : WSt}, WaySt E u bs y → x = y := by
  induction h with
  | nil =>
    intro y hy
    generalize hb : ([] : List Int) = l at hy
    cases hy with
    | nil => rfl
    | snoc bs b st ids n ok _ _ => simp at hb
  | snoc bs b st ids n ok _ hs ih =>
    intro y hy
    generalize hb : bs ++ [b] = l at hy
    cases hy with
    | nil => simp at hb
    | snoc bs' b' st' ids' n' ok' h' hs' =>
      obtain ⟨rfl, h2⟩ := List.append_inj' hb rfl
      obtain rfl : b = b' := by simpa using h2
      obtain ⟨rfl, rfl, rfl⟩ := hs.uniq hs'
      rw [ih h']
def WayS (m : MapM) (runs : List Int) (u : Int) (st : WSt) : Prop := match findNode m.nodes u with
  | none => st = ([], 0, false)
  | some _ => WaySt (downL m.runs runs) u m.bases st
theorem WayS.uniq {m : MapM} {runs : List Int} {u : Int} {x y : WSt} (h : WayS m runs u x) (k : WayS m runs u y) : x = y := by
  unfold WayS at h k
  cases hf : findNode m.nodes u with
  | none => rw [hf] at h k; rw [h, k]
  | some z => rw [hf] at h k; exact h.uniq k
/-- What Way hands back. -/
def WayPost (m : MapM) (runs : List Int) (u : Int) (w : World) (e : Ending) (w' : World) : Prop := ∃ A' c', ∃ st : WSt, e = .returned (.tuple #[.slice A' st.1.length c', .int .i64 st.2.1, .bool st.2.2]) ∧ WayS m runs u st ∧ RdI w' A' st.1 ∧ Below w.heap.size w w'
theorem short_rd (A : Option Addr) (c : Nat) (l : List Edge) (f t : Int) (w : World) (hl : RdE w A l) (hr : Right l) :
    Calls Try.prog 76 #[.slice A l.length c, .int .i64 f, .int .i64 t] w fun e w' => ∃ A' c' ids n ok, e = .returned (.tuple #[.slice A' ids.length c', .int .i64 n, .bool ok]) ∧ ShortR l f t ids n ok ∧ RdI w' A' ids ∧ Below w.heap.size w w' :=
  (short_any A c l f t w hl hr).mono (by
    rintro e w' ⟨v, ids, n, ok, rfl, hs, _, ho, hb⟩
    obtain ⟨A', c', rfl, _, _⟩ := ho.slice
    exact ⟨A', c', ids, n, ok, rfl, hs, ho.rdI, hb⟩)
theorem or3_any (x y z : Int) (W : World) : Calls Try.prog 77 #[.slice (some ⟨W.heap.size, 0, none⟩) 3 3] (W.alloc (.cells #[.int .i64 x, .int .i64 y, .int .i64 z] 3)) fun e w' => e = .returned (.int .i64 (orL [x, y, z])) ∧ W.alloc (.cells #[.int .i64 x, .int .i64 y, .int .i64 z] 3) = w' :=
  or_any (some ⟨W.heap.size, 0, none⟩) 3 [x, y, z] _ (rdI_new W [x, y, z] (by simp) _ rfl)
set_option maxRecDepth 100000 in
set_option maxHeartbeats 4000000 in
theorem wway_any (V : MapA) (m : MapM) (ok : MapOk m) (G : Option Addr) (c : Nat) (runs : List Int) (u : Int) (w : World) (hm : RdM w V m) (hg : RdI w G runs) :
    Calls Try.prog 29 #[mapV V m, .slice G runs.length c, .int .i64 u] w (WayPost m runs u w) := by
  obtain ⟨W1, hW1⟩ : ∃ W1, W1 = w.alloc (.cells #[.slice V.N m.nodes.length V.n, .slice V.L m.lifts.length V.l, .slice V.R m.runs.length V.r, .slice V.B m.bases.length V.b] 27) := ⟨_, rfl⟩
  have hb1 : Below w.heap.size w W1 := by rw [hW1]; exact box_below _ _
  have hbox : mapBox W1 w.heap.size V.N V.L V.R V.B V.n V.l V.r V.b m := by rw [hW1]; exact mapBox_new _ _ _ _ _ _ _ _ _ _
  have hn := tnode_any V m u W1 (hm.below hb1)
  have hd := fun W (h : Below W1.heap.size W1 W) => tdown_any V m G c runs W ((hm.below hb1).below h) ((hg.below hb1).below h) (by have := ok.nr; omega)
  have hE := ok.down runs
  have hs := fun A c W b (h : RdE W A (downL m.runs runs)) => short_rd A c (downL m.runs runs) u b W h hE
  obtain ⟨N_, L_, R_, B_, nc, lc, rc, bc⟩ := V
  dsimp only at hbox hn hd hW1
  unfold mapV at hn hd
  dsimp only at hn hd
  have hB : RdI W1 B_ m.bases := hm.bases.below hb1
  have hlen := hB.1
  have HB1 := Lib.hid hb1
  have HBOX := Lib.hid (fun W (h : Below W1.heap.size W1 W) => hbox.below h)
  have HBS := Lib.hid hB
  unfold mapV
  dsimp only
  cases hfn : findNode m.nodes u with
  | none =>
    unfold nodeR at hn
    rw [hfn] at hn
    dsimp only at hn
    have HN := Lib.hid hn
    have HF := Lib.hid (show WayS m runs u ([], 0, false) by unfold WayS; rw [hfn])
    clear hm hg hn hd hs hE hb1 hbox ok hfn hB
    go_enter Try.func29, Try.ntmps29
    rw [hW1] at HN
    go_wp2_with fail
    refine HN.out.mono ?_
    rw [← hW1]
    rintro e w2 ⟨rfl, hb2⟩
    have HB2 := Lib.hid (below_in HB1.out (hb2.alloc hb2.size (.cells #[.int .i64 0, .int .i64 0] 68)) HB1.out.size)
    clear hb2 HN hW1
    go_wp2_with fail
    go_ret3
    exact ⟨none, 0, ([], 0, false), rfl, HF.out, ⟨by simp, by simp⟩, HB2.out⟩
  | some x =>
    unfold nodeR at hn
    rw [hfn] at hn
    dsimp only at hn
    have HN := Lib.hid hn
    have HF := Lib.hid (show ∀ st, WaySt (downL m.runs runs) u m.bases st → WayS m runs u st by unfold WayS; rw [hfn]; exact fun _ h => h)
    obtain ⟨E, hEE⟩ : ∃ E, E = downL m.runs runs := ⟨_, rfl⟩
    rw [← hEE] at HF hs
    simp only [← hEE] at hd
    have HD := Lib.hid hd
    have HS := Lib.hid hs
    have HC := Lib.hid (fun a b W => compare_any a b W)
    have HX := Lib.hid (fun A B c d a b W (ha : RdI W A a) (hb : RdI W B b) => lexcmp_any A B c d a b W ha hb)
    clear hm hg hn hd hs hE hb1 hbox ok hfn hB hEE
    go_enter Try.func29, Try.ntmps29
    rw [hW1] at HN
    go_wp2_with fail
    refine HN.out.mono ?_
    rw [← hW1]
    rintro e w2 ⟨rfl, hb2⟩
    have HB2 := Lib.hid (hb2.alloc hb2.size (.cells #[.int .i64 x.id, .int .i64 x.alt] 68))
    obtain ⟨q0, q1, q2, q3⟩ := HBOX.out _ HB2.out
    have HD1 := Lib.hid (HD.out _ HB2.out)
    clear hb2 HN hW1
    go_wp2_with fail
    refine HD1.out.mono ?_
    rintro e w4 ⟨A4, c4, rfl, hr4, hb4⟩
    have HR4 := Lib.hid hr4
    have HB4 := Lib.hid (below_go HB2.out hb4)
    clear hr4 hb4 HD1 q0 q1 q2 q3 HB2
    obtain ⟨q0, q1, q2, q3⟩ := HBOX.out w4 HB4.out
    clear q0 q1 q2
    go_wp2_with fail
    clear q3
    go_loopw [11, 12, 13, 34] (fun bv nv fv iv wr => ∃ (k : Nat) (A : Option Addr) (cc : Nat) (st : WSt), k ≤ m.bases.length ∧ iv = .int .i64 k ∧ bv = .slice A st.1.length cc ∧ nv = .int .i64 st.2.1 ∧ fv = .bool st.2.2 ∧ Hid (RdI wr A st.1) ∧ Hid (WaySt E u (m.bases.take k) st) ∧ Hid (Below w4.heap.size w4 wr)) (fun _ _ _ iv _ => m.bases.length - (intOf iv).toNat)
    case atStart => exact ⟨0, none, 0, ([], 0, false), Nat.zero_le _, rfl, rfl, rfl, rfl, ⟨by simp, by simp⟩, WaySt.nil, Below.refl _ _⟩
    case round =>
      obtain ⟨k, A, cc, ⟨best, len, fnd⟩, hk, rfl, rfl, rfl, rfl, HR, HW, HB⟩ := hrel
      dsimp only at HR
      dsimp only
      by_cases hlt : k < m.bases.length
      · have i1 : ((k : Int) < (m.bases.length : Int)) := by omega
        obtain ⟨a, rfl⟩ := HBS.out.addr hlt
        have x0 := HBS.out.at_ (below_go HB4.out HB.out) hlt
        have HS1 := Lib.hid (HS.out A4 c4 wr (numAt m.bases k) (HR4.out.below HB.out))
        have HTK := Lib.hid (take_num hlt)
        go_wp2_with fail
        refine HS1.out.mono ?_
        rintro e w5 ⟨A5, c5, ids, n, okk, rfl, hs5, hr5, hb5⟩
        have HB5 := Lib.hid (below_go HB.out hb5)
        have HR5 := Lib.hid hr5
        have HRB := Lib.hid (HR.out.below hb5)
        have HW5 := Lib.hid (show WaySt E u (m.bases.take (k + 1)) (stepW (best, len, fnd) (ids, n, okk)) by rw [HTK.out]; exact WaySt.snoc _ _ _ _ _ _ HW.out hs5)
        clear hs5 hr5 hb5 HS1 HR HW HB HTK x0
        cases okk with
        | false =>
          go_wp2_with fail
          go_roundw
          case rel => exact ⟨k + 1, A, cc, (best, len, fnd), by omega, by go_num, rfl, rfl, rfl, HRB.out, HW5.out, HB5.out⟩
          case measure => simp [intOf]; omega
        | true =>
          cases fnd with
          | false =>
            have HW6 := Lib.hid (show WaySt E u (m.bases.take (k + 1)) (ids, n, true) from by
              have h := HW5.out
              unfold stepW at h
              simpa using h)
            go_wp2_with fail
            go_roundw
            case rel => exact ⟨k + 1, A5, c5, (ids, n, true), by omega, by go_num, rfl, rfl, rfl, HR5.out, HW6.out, HB5.out⟩
            case measure => simp [intOf]; omega
          | true =>
            obtain ⟨r, hr⟩ : ∃ r, r = orL [cmpI n len, cmpI (ids.length : Int) (best.length : Int), lexC ids best] := ⟨_, rfl⟩
            have ho := fun W => or3_any (cmpI n len) (cmpI (ids.length : Int) (best.length : Int)) (lexC ids best) W
            rw [← hr] at ho
            have HBT := Lib.hid (show betterB ids n best len = decide (r < 0) by unfold betterB; rw [hr])
            obtain ⟨y1, hy1⟩ : ∃ y1, y1 = cmpI n len := ⟨_, rfl⟩
            obtain ⟨y2, hy2⟩ : ∃ y2, y2 = cmpI (ids.length : Int) (best.length : Int) := ⟨_, rfl⟩
            obtain ⟨y3, hy3⟩ : ∃ y3, y3 = lexC ids best := ⟨_, rfl⟩
            have h1 := HC.out n len
            have h2 := HC.out (ids.length : Int) (best.length : Int)
            have h3 := HX.out A5 A c5 cc ids best w5 HR5.out HRB.out
            simp only [← hy1, ← hy2, ← hy3] at ho h1 h2 h3
            have HO := Lib.hid ho
            have H1 := Lib.hid h1
            have H2 := Lib.hid h2
            have H3 := Lib.hid h3
            clear ho h1 h2 h3 hy1 hy2 hy3 hr
            by_cases hneg : r < 0
            · have HW6 := Lib.hid (show WaySt E u (m.bases.take (k + 1)) (ids, n, true) from by
                have h := HW5.out
                have hbt := HBT.out
                rw [decide_eq_true hneg] at hbt
                unfold stepW at h
                simpa [hbt] using h)
              go_wp2_with fail
              refine (H1.out _).mono ?_
              rintro e w6 ⟨rfl, rfl⟩
              go_wp2_with fail
              refine (H2.out _).mono ?_
              rintro e w6 ⟨rfl, rfl⟩
              go_wp2_with fail
              refine H3.out.mono ?_
              rintro e w6 ⟨rfl, rfl⟩
              go_wp2_with fail
              refine (HO.out _).mono ?_
              rintro e w6 ⟨rfl, hw6⟩
              have HB6 := Lib.hid (show Below w5.heap.size w5 w6 by rw [← hw6]; exact box_below _ _)
              clear hw6
              go_wp2_with fail
              go_roundw
              case rel => exact ⟨k + 1, A5, c5, (ids, n, true), by omega, by go_num, rfl, rfl, rfl, HR5.out.below HB6.out, HW6.out, below_go HB5.out HB6.out⟩
              case measure => simp [intOf]; omega
            · have HW6 := Lib.hid (show WaySt E u (m.bases.take (k + 1)) (best, len, true) from by
                have h := HW5.out
                have hbt := HBT.out
                rw [decide_eq_false hneg] at hbt
                unfold stepW at h
                simpa [hbt] using h)
              go_wp2_with fail
              refine (H1.out _).mono ?_
              rintro e w6 ⟨rfl, rfl⟩
              go_wp2_with fail
              refine (H2.out _).mono ?_
              rintro e w6 ⟨rfl, rfl⟩
              go_wp2_with fail
              refine H3.out.mono ?_
              rintro e w6 ⟨rfl, rfl⟩
              go_wp2_with fail
              refine (HO.out _).mono ?_
              rintro e w6 ⟨rfl, hw6⟩
              have HB6 := Lib.hid (show Below w5.heap.size w5 w6 by rw [← hw6]; exact box_below _ _)
              clear hw6
              go_wp2_with fail
              go_roundw
              case rel => exact ⟨k + 1, A, cc, (best, len, true), by omega, by go_num, rfl, rfl, rfl, HRB.out.below HB6.out, HW6.out, below_go HB5.out HB6.out⟩
              case measure => simp [intOf]; omega
      · have hkl : k = m.bases.length := by omega
        subst hkl
        rw [List.take_length] at HW
        have i1 : ¬ ((m.bases.length : Int) < (m.bases.length : Int)) := by omega
        go_wp2_with fail
        go_ret3
        exact ⟨A, cc, (best, len, fnd), rfl, HF.out _ HW.out, HR.out, below_in HB1.out (below_go HB4.out HB.out) HB1.out.size⟩
set_option maxRecDepth 100000 in
set_option maxHeartbeats 4000000 in
theorem rway_any (V : MapA) (m : MapM) (ok : MapOk m) (G : Option Addr) (c : Nat) (runs : List Int) (u : Int) (w : World) (hm : RdM w V m) (hg : RdI w G runs) :
    Calls Try.prog 30 #[mapV V m, .slice G runs.length c, .int .i64 u] w (WayPost m runs u w) := by
  obtain ⟨W1, hW1⟩ : ∃ W1, W1 = w.alloc (.cells #[.slice V.N m.nodes.length V.n, .slice V.L m.lifts.length V.l, .slice V.R m.runs.length V.r, .slice V.B m.bases.length V.b] 27) := ⟨_, rfl⟩
  have hb1 : Below w.heap.size w W1 := by rw [hW1]; exact box_below _ _
  have hbox : mapBox W1 w.heap.size V.N V.L V.R V.B V.n V.l V.r V.b m := by rw [hW1]; exact mapBox_new _ _ _ _ _ _ _ _ _ _
  have hn := rnode_any V m u W1 (hm.below hb1)
  have hd := fun W (h : Below W1.heap.size W1 W) => rdown_any V m G c runs W ((hm.below hb1).below h) ((hg.below hb1).below h) (by have := ok.nr; omega)
  have hE := ok.down runs
  have hs := fun A c W b (h : RdE W A (downL m.runs runs)) => rshort_any A c (downL m.runs runs) u b W h hE
  obtain ⟨N_, L_, R_, B_, nc, lc, rc, bc⟩ := V
  dsimp only at hbox hn hd hW1
  unfold mapV at hn hd
  dsimp only at hn hd
  have hB : RdI W1 B_ m.bases := hm.bases.below hb1
  have hlen := hB.1
  have HB1 := Lib.hid hb1
  have HBOX := Lib.hid (fun W (h : Below W1.heap.size W1 W) => hbox.below h)
  have HBS := Lib.hid hB
  unfold mapV
  dsimp only
  cases hfn : findNode m.nodes u with
  | none =>
    unfold nodeR at hn
    rw [hfn] at hn
    dsimp only at hn
    have HN := Lib.hid hn
    have HF := Lib.hid (show WayS m runs u ([], 0, false) by unfold WayS; rw [hfn])
    clear hm hg hn hd hs hE hb1 hbox ok hfn hB
    go_enter Try.func30, Try.ntmps30
    rw [hW1] at HN
    go_wp2_with fail
    refine HN.out.mono ?_
    rw [← hW1]
    rintro e w2 ⟨rfl, hb2⟩
    have HB2 := Lib.hid (below_in HB1.out (hb2.alloc hb2.size (.cells #[.int .i64 0, .int .i64 0] 68)) HB1.out.size)
    clear hb2 HN hW1
    go_wp2_with fail
    go_ret3
    exact ⟨none, 0, ([], 0, false), rfl, HF.out, ⟨by simp, by simp⟩, HB2.out⟩
  | some x =>
    unfold nodeR at hn
    rw [hfn] at hn
    dsimp only at hn
    have HN := Lib.hid hn
    have HF := Lib.hid (show ∀ st, WaySt (downL m.runs runs) u m.bases st → WayS m runs u st by unfold WayS; rw [hfn]; exact fun _ h => h)
    obtain ⟨E, hEE⟩ : ∃ E, E = downL m.runs runs := ⟨_, rfl⟩
    rw [← hEE] at HF hs
    simp only [← hEE] at hd
    have HD := Lib.hid hd
    have HS := Lib.hid hs
    have HC := Lib.hid (fun a b W => compare_any a b W)
    have HX := Lib.hid (fun A B c d a b W (ha : RdI W A a) (hb : RdI W B b) => lexcmp_any A B c d a b W ha hb)
    clear hm hg hn hd hs hE hb1 hbox ok hfn hB hEE
    go_enter Try.func30, Try.ntmps30
    rw [hW1] at HN
    go_wp2_with fail
    refine HN.out.mono ?_
    rw [← hW1]
    rintro e w2 ⟨rfl, hb2⟩
    have HB2 := Lib.hid (hb2.alloc hb2.size (.cells #[.int .i64 x.id, .int .i64 x.alt] 68))
    have HBE := Lib.hid (fun A B c d a n b k W (ha : RdI W A a) (hb : RdI W B b) => better_any A B c d a b n k W ha hb)
    clear hb2 HN hW1 HC HX
    obtain ⟨W3, hW3⟩ : ∃ W3, W3 = w2.alloc (.cells #[.int .i64 x.id, .int .i64 x.alt] 68) := ⟨_, rfl⟩
    rw [← hW3] at HB2
    go_wp2_with fail
    rw [← hW3]
    clear hW3
    go_loopw [9, 10, 11, 14] (fun bv nv fv iv wr => ∃ (k : Nat) (A : Option Addr) (cc : Nat) (st : WSt), k ≤ m.bases.length ∧ iv = .int .i64 k ∧ bv = .slice A st.1.length cc ∧ nv = .int .i64 st.2.1 ∧ fv = .bool st.2.2 ∧ Hid (RdI wr A st.1) ∧ Hid (WaySt E u (m.bases.take k) st) ∧ Hid (Below W3.heap.size W3 wr)) (fun _ _ _ iv _ => m.bases.length - (intOf iv).toNat)
    case atStart => exact ⟨0, none, 0, ([], 0, false), Nat.zero_le _, rfl, rfl, rfl, rfl, ⟨by simp, by simp⟩, WaySt.nil, Below.refl _ _⟩
    case round =>
      obtain ⟨k, A, cc, ⟨best, len, fnd⟩, hk, rfl, rfl, rfl, rfl, HR, HW, HB⟩ := hrel
      dsimp only at HR
      dsimp only
      have HBW := Lib.hid (below_go HB2.out HB.out)
      obtain ⟨q0, q1, q2, q3⟩ := HBOX.out wr HBW.out
      clear q0 q1 q2
      by_cases hlt : k < m.bases.length
      · have i1 : ((k : Int) < (m.bases.length : Int)) := by omega
        obtain ⟨a, rfl⟩ := HBS.out.addr hlt
        have HTK := Lib.hid (take_num hlt)
        obtain ⟨bk, hbk⟩ : ∃ bk, bk = numAt m.bases k := ⟨_, rfl⟩
        have HCK := Lib.hid (fun W (h : Below W1.heap.size W1 W) => (⟨(HBOX.out W h).1, (HBOX.out W h).2.1, (HBOX.out W h).2.2.1, (HBOX.out W h).2.2.2, by rw [hbk]; exact HBS.out.at_ h hlt⟩ : W.cell? ⟨w.heap.size, 0, none⟩ = some (.slice N_ m.nodes.length nc) ∧ W.cell? ⟨w.heap.size, 1, none⟩ = some (.slice L_ m.lifts.length lc) ∧ W.cell? ⟨w.heap.size, 2, none⟩ = some (.slice R_ m.runs.length rc) ∧ W.cell? ⟨w.heap.size, 3, none⟩ = some (.slice (some a) m.bases.length bc) ∧ W.cell? (a.add k) = some (.int .i64 bk)))
        rw [← hbk] at HTK
        clear hbk
        have hb0 : Hid (Below wr.heap.size wr wr) := Below.refl _ _
        have hb2 : Hid (Below wr.heap.size wr wr.drew) := (Below.refl _ _).drew
        go_wp2_with fail
        clear q3
        go_region_held3 (fun W : World => W.cell? ⟨w.heap.size, 0, none⟩ = some (.slice N_ m.nodes.length nc) ∧ W.cell? ⟨w.heap.size, 1, none⟩ = some (.slice L_ m.lifts.length lc) ∧ W.cell? ⟨w.heap.size, 2, none⟩ = some (.slice R_ m.runs.length rc) ∧ W.cell? ⟨w.heap.size, 3, none⟩ = some (.slice (some a) m.bases.length bc) ∧ W.cell? (a.add k) = some (.int .i64 bk))
          (first | exact HCK.out _ (below_go HBW.out hb0.out) | exact HCK.out _ (below_go HBW.out hb2.out) | exact HCK.out _ (below_go HBW.out HB9.out) | exact HCK.out _ (below_go HBW.out HB8.out))
          (first | (go_at_call 70; refine (HD.out _ (by first | exact below_go HBW.out hb0.out | exact below_go HBW.out hb2.out)).mono ?_; rintro e w8 ⟨A8, c8, rfl, hr8, hb8⟩; have HB8 := Lib.hid (show Below wr.heap.size wr w8 from by first | exact hb8 | exact below_go hb2.out hb8); have HR8 := Lib.hid hr8; clear hb8 hr8) | (go_at_call 80; refine (HS.out _ _ _ _ HR8.out).mono ?_; rintro e w5 ⟨A5, c5, ids, n, okk, rfl, hs5, hr5, hb5⟩; have HB9 := Lib.hid (below_go HB8.out hb5); have HR9 := Lib.hid hr5; have HS9 := Lib.hid hs5; clear hs5 hr5 hb5))
        all_goals
          have HB5 := Lib.hid (below_go HB.out HB9.out)
          have HRB := Lib.hid (HR.out.below HB9.out)
          have HW5 := Lib.hid (show WaySt E u (m.bases.take (k + 1)) (stepW (best, len, fnd) (ids, n, okk)) by rw [HTK.out]; exact WaySt.snoc _ _ _ _ _ _ HW.out HS9.out)
          clear HR HW HB HTK HCK HS9 HR8 HB8 HBW
          cases okk with
          | false =>
            go_wp2_with fail
            go_roundw
            case rel => exact ⟨k + 1, A, cc, (best, len, fnd), by omega, by go_num, rfl, rfl, rfl, HRB.out, HW5.out, HB5.out⟩
            case measure => simp [intOf]; omega
          | true =>
            cases fnd with
            | false =>
              have HW6 := Lib.hid (show WaySt E u (m.bases.take (k + 1)) (ids, n, true) from by
                have h := HW5.out
                unfold stepW at h
                simpa using h)
              go_wp2_with fail
              go_roundw
              case rel => exact ⟨k + 1, A5, c5, (ids, n, true), by omega, by go_num, rfl, rfl, rfl, HR9.out, HW6.out, HB5.out⟩
              case measure => simp [intOf]; omega
            | true =>
              have hbe := HBE.out A5 A c5 cc ids n best len w5 HR9.out HRB.out
              cases hbt : betterB ids n best len with
              | true =>
                rw [hbt] at hbe
                have H1 := Lib.hid hbe
                have HW6 := Lib.hid (show WaySt E u (m.bases.take (k + 1)) (ids, n, true) from by
                  have h := HW5.out
                  unfold stepW at h
                  simpa [hbt] using h)
                clear hbe hbt
                go_wp2_with fail
                refine H1.out.mono ?_
                rintro e w6 ⟨rfl, hb6⟩
                have HB6 := Lib.hid hb6
                clear hb6
                go_wp2_with fail
                go_roundw
                case rel => exact ⟨k + 1, A5, c5, (ids, n, true), by omega, by go_num, rfl, rfl, rfl, HR9.out.below HB6.out, HW6.out, below_go HB5.out HB6.out⟩
                case measure => simp [intOf]; omega
              | false =>
                rw [hbt] at hbe
                have H1 := Lib.hid hbe
                have HW6 := Lib.hid (show WaySt E u (m.bases.take (k + 1)) (best, len, true) from by
                  have h := HW5.out
                  unfold stepW at h
                  simpa [hbt] using h)
                clear hbe hbt
                go_wp2_with fail
                refine H1.out.mono ?_
                rintro e w6 ⟨rfl, hb6⟩
                have HB6 := Lib.hid hb6
                clear hb6
                go_wp2_with fail
                go_roundw
                case rel => exact ⟨k + 1, A, cc, (best, len, true), by omega, by go_num, rfl, rfl, rfl, HRB.out.below HB6.out, HW6.out, below_go HB5.out HB6.out⟩
                case measure => simp [intOf]; omega
      · have hkl : k = m.bases.length := by omega
        subst hkl
        rw [List.take_length] at HW
        have i1 : ¬ ((m.bases.length : Int) < (m.bases.length : Int)) := by omega
        go_wp2_with fail
        go_ret3
        exact ⟨A, cc, (best, len, fnd), rfl, HF.out _ HW.out, HR.out, below_in HB1.out HBW.out HB1.out.size⟩
end Go.Proofs.Ytoeiongnjogpeaa
