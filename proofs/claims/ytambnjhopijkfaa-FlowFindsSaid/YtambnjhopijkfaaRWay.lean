/- Proved here: the reference function way returns the edges of the way back from t, as search writes them. Condition: the lists are those of a search. -/
import Derived.Test.YtambnjhopijkfaaRSearch
namespace Go.Proofs.Ytambnjhopijkfaa
open Go.RowKit
def encN (p : Nat × Bool) : Int := if p.2 then -(p.1 : Int) - 1 else (p.1 : Int) + 1
theorem encN_eq (p : Nat × Bool) : encN p = encV ((p.1 : Int), p.2) := rfl
def WS (l : List Edge) (s : Int) (m : Int → Option (Int × Bool)) (ord : List Int) (k : Nat) (x : Int) (rest : List (Nat × Bool)) : Prop :=
  (rest = [] ∧ (¬ x ∈ ord ∨ x = s)) ∨ (Follow l m s x rest ∧ x ∈ ord.take k)
theorem WS.step {l : List Edge} {f : List Int} {s : Int} {m : Int → Option (Int × Bool)} {ord : List Int} (h : BFS l f s m ord) {k : Nat} {x : Int} {rest : List (Nat × Bool)} (hk : k < ord.length) (hw : WS l s m ord (k + 1) x rest) :
    (numAt ord k ≠ x ∧ WS l s m ord k x rest) ∨ (numAt ord k = x ∧ viaM s m x = 0 ∧ WS l s m ord k x rest) ∨
    (numAt ord k = x ∧ ∃ p ps, rest = p :: ps ∧ viaM s m x = encN p ∧ p.1 < l.length ∧ WS l s m ord k (prevN l p) ps) := by
  have hmem : numAt ord k ∈ ord := List.mem_of_getElem? (numAt_eq hk)
  by_cases he : numAt ord k = x
  · rcases hw with ⟨hr, hx⟩ | ⟨hf, hx⟩
    · right; left
      rcases hx with hx | hx
      · exact absurd (he ▸ hmem) hx
      · exact ⟨he, by simp [viaM, hx], .inl ⟨hr, .inr hx⟩⟩
    · cases rest with
      | nil =>
        right; left
        exact ⟨he, by simp [viaM, (show x = s from hf)], .inl ⟨rfl, .inr hf⟩⟩
      | cons p ps =>
        right; right
        obtain ⟨h1, h2, h3, h4⟩ := hf
        refine ⟨he, p, ps, rfl, by simp [viaM, h1, h2, encN_eq], h3, .inr ⟨h4, ?_⟩⟩
        have h0 : 0 < k := by
          rcases Nat.eq_zero_or_pos k with rfl | h
          · obtain ⟨r, hr⟩ := h.head
            rw [hr] at he
            exact absurd (by simpa [numAt] using he.symm) h1
          · exact h
        obtain ⟨j, b, u, a1, a2, a3⟩ := h.step k x (by rw [numAt_eq hk, he]) h0
        rw [h2] at a1
        have hp : p = (j, b) := by
          obtain ⟨p1, p2⟩ := p
          simp at a1
          obtain ⟨e1, e2⟩ := a1
          subst e2
          congr 1
          omega
        rw [hp, a2.prev]
        exact a3
  · left
    refine ⟨he, hw.imp_right fun ⟨hf, hx⟩ => ⟨hf, ?_⟩⟩
    rw [List.take_add_one, numAt_eq hk] at hx
    rcases List.mem_append.1 hx with h' | h'
    · exact h'
    · simp at h'; exact absurd h'.symm he
set_option maxRecDepth 100000 in
set_option maxHeartbeats 4000000 in
/-- ref06.way -/
theorem way_any (A S V : Option Addr) (c cs cv : Nat) (l : List Edge) (f : List Int) (s t : Int) (m : Int → Option (Int × Bool)) (ord : List Int) (full : List (Nat × Bool)) (w : World) (hl : RdE w A l) (hs : RdI w S ord) (hv : RdI w V (ord.map (viaM s m)))
    (hb : BFS l f s m ord) (hw : WS l s m ord ord.length t full) (h200 : l.length ≤ 200) :
    Calls Try.prog 40 #[.slice A l.length c, .slice S ord.length cs, .slice V ord.length cv, .int .i64 t] w fun e w' => ∃ v, e = .returned v ∧ OwnS 3 1 w' w.heap.size v full.length ((full.map encN).map (Value.int .i64)) ∧ Below w.heap.size w w' := by
  have hm := hl.1
  have hol := hb.length
  have HL := Lib.hid hl
  have HS := Lib.hid hs
  have HV := Lib.hid hv
  have HB := Lib.hid hb
  have HW := Lib.hid hw
  clear hl hs hv hb hw
  go_enter Try.func40, Try.ntmps40
  go_wp2_with fail
  go_loopg [3, 9, 10] ord.length (fun g xv ov iv wr => ∃ (x : Int) (done rest : List (Nat × Bool)), g ≤ ord.length ∧ xv = .int .i64 x ∧ iv = .int .i64 ((g : Int) - 1) ∧ Hid (full = done ++ rest) ∧ done.length + g ≤ ord.length ∧ Hid (WS l s m ord g x rest) ∧ Hid (OwnS 3 1 wr w.heap.size ov done.length ((done.map encN).map (Value.int .i64))) ∧ Hid (Below w.heap.size w wr))
  case atStart => exact ⟨t, [], full, Nat.le_refl _, rfl, rfl, rfl, by simp, HW.out, OwnS.nil _ _ _ _, Below.refl _ _⟩
  case round =>
    clear HW
    obtain ⟨x, done, rest, hg, rfl, rfl, HE, hdl, HWS, HO, HBW⟩ := hrel
    cases gk with
    | zero =>
      have hr : rest = [] := by
        rcases HWS.out with ⟨h, _⟩ | ⟨_, h⟩
        · exact h
        · simp at h
      have HR := Lib.hid (show full = done by rw [HE.out, hr]; simp)
      clear hr
      have i0 : ¬ ((0 : Int) ≤ ((0 : Nat) : Int) - 1) := by omega
      obtain ⟨A1, c1, rfl, _, _⟩ := HO.out.slice
      have HO' : OwnS 3 1 wr w.heap.size (.slice A1 done.length c1) full.length ((full.map encN).map (Value.int .i64)) := by rw [HR.out]; exact HO.out
      go_wp2_with fail
      go_ret
      exact ⟨_, rfl, by rw [← List.map_map]; exact HO', HBW.out⟩
    | succ k =>
      have hk : k < ord.length := by omega
      have ek : ((k + 1 : Nat) : Int) - 1 = (k : Int) := by omega
      rw [ek]
      have i0 : ((0 : Int) ≤ (k : Int)) := by omega
      have i1 : ((k : Int) < (ord.length : Int)) := by omega
      obtain ⟨a, rfl⟩ := HS.out.addr hk
      obtain ⟨b, rfl⟩ := HV.out.addr (i := k) (by rw [List.length_map]; exact hk)
      have y0 := HS.out.at_ HBW.out hk
      have y1 := HV.out.at_ HBW.out (i := k) (by rw [List.length_map]; exact hk)
      have hvk : numAt (ord.map (viaM s m)) k = viaM s m (numAt ord k) := by simp [numAt, hk]
      rw [hvk] at y1
      rcases HWS.out.step HB.out hk with ⟨h1, h2⟩ | ⟨h1, h2, h3⟩ | ⟨h1, p, ps, rfl, h3, h4, h5⟩
      · have g1 : (numAt ord k != x) = true := by simpa using h1
        have H2 := Lib.hid h2
        clear h1 h2 hvk
        go_wp2_with fail
        go_roundg k
        case measure => omega
        case rel => exact ⟨x, done, rest, by omega, rfl, by go_num, HE.out, by omega, H2.out, HO.out, HBW.out⟩
      · have g1 : (numAt ord k != x) = false := by simpa using h1
        rw [h1, h2] at y1
        have H2 := Lib.hid h3
        clear h1 h2 h3 hvk
        go_wp2_with fail
        go_roundg k
        case measure => omega
        case rel => exact ⟨x, done, rest, by omega, rfl, by go_num, HE.out, by omega, H2.out, HO.out, HBW.out⟩
      · have g1 : (numAt ord k != x) = false := by simpa using h1
        have HY := Lib.hid (show numAt (ord.map (viaM s m)) k = encN p by rw [hvk, h1, h3])
        rw [h1, h3] at y1
        obtain ⟨A1, c1, rfl, hc1, hc2⟩ := HO.out.slice
        obtain ⟨a2, rfl⟩ := HL.out.addr h4
        have H5 := Lib.hid h5
        have HZ := Lib.hid HBW.out.size
        clear h1 h3 h5 hvk
        have hne : (encN p == 0) = false := by rw [beq_eq_false_iff_ne]; unfold encN; split <;> omega
        go_wp2_with (at_builtin; refine OwnS.wp_append rfl _ _ 23 rfl 3 (.int .i64 0) 1 8 Try.underlying23 (by kernel_rfl) rfl (by omega) (by omega) w.heap.size done.length _ ((done.map encN).map (Value.int .i64)) rfl (HO.out.alloc _) ⟨_, 0, none⟩ 1 [.int .i64 (encN p)] rfl rfl (box_cells _ #[.int .i64 (encN p)] 3 _ (by simp)) (by simp [Value.oneCell']) (by omega) (by have := HZ.out; simp; omega) ?_)
        intro v' w2 ho2 hg2 _
        have hb2 : Below w.heap.size w w2 := ((HBW.out.alloc HBW.out.size _)).grown hg2 (by have := HZ.out; simp; omega) (fun i hi => (HO.out.block hi).1)
        obtain ⟨x0, x1, x2, x3⟩ := HL.out.at_ hb2 h4
        have y2 := HV.out.at_ hb2 (i := k) (by rw [List.length_map]; exact hk)
        rw [HY.out] at y2
        obtain ⟨A3, c3, rfl, hc3, hc4⟩ := ho2.slice
        have ho3 : OwnS 3 1 w2 w.heap.size (.slice A3 (done.length + 1) c3) (done ++ [p]).length (((done ++ [p]).map encN).map (Value.int .i64)) := by
          rw [List.length_append, List.map_append, List.map_append]
          rw [← List.map_map] at ho2
          exact ho2
        have HO3 := Lib.hid ho3
        have HB2 := Lib.hid hb2
        have HE2 := Lib.hid (show full = (done ++ [p]) ++ ps by rw [HE.out]; simp)
        have i4 : ((p.1 : Int) < (l.length : Int)) := by omega
        clear ho2 ho3 hb2 hg2 y0 y1 HE HO HBW
        obtain ⟨j, b⟩ := p
        cases b
        · obtain ⟨y, hy⟩ : ∃ y, y = encN (j, false) := ⟨_, rfl⟩
          rw [← hy] at y2 hne ⊢
          have ev : y = (j : Int) + 1 := hy
          have g2 : decide ((0 : Int) < y) = true := by rw [decide_eq_true_eq]; omega
          have e3 : y - 1 = (j : Int) := by omega
          have b1 : y ≤ 300 := by omega
          have b2 : -300 ≤ y := by omega
          have H6 : Hid (WS l s m ord k (edAt l j).src ps) := H5.out
          clear H5 hy ev
          go_wp2_with fail
          go_roundg k
          case measure => omega
          case rel => exact ⟨_, done ++ [(j, false)], ps, by omega, rfl, by go_num, HE2.out, by simp; omega, H6.out, HO3.out, HB2.out⟩
        · obtain ⟨y, hy⟩ : ∃ y, y = encN (j, true) := ⟨_, rfl⟩
          rw [← hy] at y2 hne ⊢
          have ev : y = -(j : Int) - 1 := hy
          have g2 : decide ((0 : Int) < y) = false := by rw [decide_eq_false_iff_not]; omega
          have e3 : -y - 1 = (j : Int) := by omega
          have b1 : y ≤ 300 := by omega
          have b2 : -300 ≤ y := by omega
          have H6 : Hid (WS l s m ord k (edAt l j).dst ps) := H5.out
          clear H5 hy ev
          go_wp2_with fail
          go_roundg k
          case measure => omega
          case rel => exact ⟨_, done ++ [(j, true)], ps, by omega, rfl, by go_num, HE2.out, by simp; omega, H6.out, HO3.out, HB2.out⟩
end Go.Proofs.Ytambnjhopijkfaa
