/- Proved here: the reference function Find returns a flow with a shut set, for two different nodes. Condition: accepted edges. -/
import Derived.Test.YtambnjhopijkfaaRSearchW
import Derived.Test.YtambnjhopijkfaaRWay
namespace Go.Proofs.Ytambnjhopijkfaa
open Go.RowKit
structure FR (l : List Edge) (w wr : World) (g : Nat) (f : List Int) : Prop where
  own : OwnS 3 1 wr w.heap.size (.slice (some ⟨g, 0, none⟩) l.length l.length) l.length (f.map (Value.int .i64))
  below : Below w.heap.size w wr
theorem FR.of_below {l : List Edge} {w wr w' : World} {g : Nat} {f : List Int} (h : FR l w wr g f) (hb : Below wr.heap.size wr w') : FR l w w' g f :=
  ⟨h.own.below hb, below_in h.below hb h.below.size⟩
theorem FR.store {l : List Edge} {w wr : World} {g : Nat} {f : List Int} (h : FR l w wr g f) (j : Nat) (y : Int) :
    FR l w (wr.setCell ⟨g, j, none⟩ (.int .i64 y)) g (f.set j y) := by
  have hst := h.own.store j (.int .i64 y)
  rw [Nat.zero_add] at hst
  exact ⟨by rw [List.map_set]; exact hst.1, h.below.setCell (h.own.block (k := g) rfl).1 _⟩
theorem RdI.set {w : World} {a : Addr} {xs : List Int} (h : RdI w (some a) xs) {g j : Nat} (hg : a.block ≠ g) (v : Value) : RdI (w.setCell ⟨g, j, none⟩ v) (some a) xs := by
  refine ⟨h.1, fun i hi => ?_⟩
  obtain ⟨a', ha, h0⟩ := h.2 i hi
  cases ha
  have hb : (a.add i).block = a.block := by unfold Addr.add; split <;> rfl
  exact ⟨a, rfl, by rw [World.cell?_of_block (w := w) (Below.heap_setCell _ _ _ _ (by rw [hb]; exact hg))]; exact h0⟩
theorem encN_at {full : List (Nat × Bool)} {k : Nat} (h : k < full.length) : numAt (full.map encN) k = encN (stepAt full k) := by
  have := stepAt_eq h
  simp [numAt, this]
set_option maxRecDepth 100000 in
set_option maxHeartbeats 8000000 in
/-- ref06.Find, different nodes -/
theorem rfind_ne (A : Option Addr) (c : Nat) (l : List Edge) (s t : Int) (w : World) (hl : RdE w A l) (hr : Right l) (hst : s ≠ t) :
    Calls Try.prog 30 #[.slice A l.length c, .int .i64 s, .int .i64 t] w fun e w' => ∃ v f S, e = .returned v ∧ OwnS 3 1 w' w.heap.size v l.length (f.map (Value.int .i64)) ∧ MaxF l f s t S ∧ Below w.heap.size w w' := by
  have hm := hl.1
  have h200 := hr.len
  have hmk : ∀ W : World, (Instr.makeSlice 23 (.int .i64 (l.length : Int)) (.int .i64 (l.length : Int))).run Try.prog W = .ok (.slice (some ⟨W.heap.size, 0, none⟩) l.length l.length) (W.alloc (.cells (madeCells #[.int .i64 0] l.length) 3)) :=
    fun W => run_make_row' 23 3 (.int .i64 0) 8 Try.underlying23 (by kernel_rfl) rfl .i64 .i64 l.length (by omega) (by omega) W
  have HL := Lib.hid hl
  have HR := Lib.hid hr
  have hne : (s == t) = false := by simpa using hst
  have HST := Lib.hid hst
  clear hl hr hst
  go_enter Try.func30, Try.ntmps30
  go_wp2_with fail
  have HS : Hid (FR l w (w.alloc (.cells (madeCells #[.int .i64 0] l.length) 3)) w.heap.size (zeros l.length)) := by
    refine ⟨⟨by simp [zeros], _, l.length, rfl, Nat.le_refl _, by simp only [maxLen]; omega, .inr ⟨w.heap.size, 0, madeCells #[.int .i64 0] l.length, rfl, Nat.le_refl _, heap_alloc_new _ _, by simp [size_madeCells], fun j u hj => ?_⟩⟩, (Below.refl _ _).alloc (Nat.le_refl _) _⟩
    have hjl : j < l.length := by
      have := (List.getElem?_eq_some_iff.1 hj).1
      simpa [zeros] using this
    simp [zeros, hjl] at hj
    subst hj
    simp [madeCells, hjl, Nat.mod_one]
  obtain ⟨W, hW⟩ : ∃ W, W = w.alloc (.cells (madeCells #[.int .i64 0] l.length) 3) := ⟨_, rfl⟩
  rw [← hW] at HS ⊢
  clear hW hmk
  obtain ⟨g, hg⟩ : ∃ g, g = w.heap.size := ⟨_, rfl⟩
  have HG0 : Hid (∀ W f, FR l w W g f → g < W.heap.size) := fun W f h => (h.own.block (k := g) rfl).2.1
  have e0 : (⟨w.heap.size, 0, none⟩ : Addr) = ⟨g, 0, none⟩ := by rw [hg]
  rw [← hg] at HS
  simp only [e0]
  clear e0 hg
  go_loopg [] 200000001 (fun gh wr => ∃ f : List Int, Hid ((gh : Int) + net l f s = 200000001) ∧ Hid (IsFlow l f s t) ∧ Hid (FR l w wr g f))
  case atStart => exact ⟨zeros l.length, by have := (zeros_flow l s t HR.out).2; simp only [Hid, this]; rfl, (zeros_flow l s t HR.out).1, HS.out⟩
  case round =>
    clear HS
    obtain ⟨f, HG, HF, HI⟩ := hrel
    have HN := Lib.hid HF.out.len
    have hcall := search_any A (some ⟨g, 0, none⟩) c l.length l f s wr (HL.out.below HI.out.below) HI.out.own.rdI HF.out.len h200
    rw [HF.out.len] at hcall
    have HC := Lib.hid hcall
    clear hcall
    go_wp2_with fail
    refine HC.out.mono ?_
    rintro e w1 ⟨v1, v2, m, ord, rfl, hsi, hshut⟩
    obtain ⟨A1, c1, rfl, _, _⟩ := hsi.o1.slice
    obtain ⟨A2, c2, rfl, _, _⟩ := hsi.o2.slice
    have HI1 := Lib.hid (HI.out.of_below hsi.below)
    have HSHUT := Lib.hid hshut
    have HSI := Lib.hid hsi
    clear hshut hsi HC
    cases hmt : m t with
    | none =>
      have hno : ¬ t ∈ ord := fun hh => by
        have := (HSI.out.bfs.keys t).2 hh
        rw [hmt] at this; cases this
      have HC2 := Lib.hid (way_any A A1 A2 c c1 c2 l f s t m ord [] w1 (HL.out.below HI1.out.below) HSI.out.o1.rdI HSI.out.o2.rdI HSI.out.bfs (.inl ⟨rfl, .inl hno⟩) h200)
      have HMAX := Lib.hid (show MaxF l f s t ord from ⟨HF.out, (by
          obtain ⟨r, hr⟩ := HSI.out.bfs.head
          rw [hr]; simp), hno, fun j b u k hu hres => HSHUT.out u hu j b k hres.1 hres, fun T h1 h2 => HSI.out.bfs.least T h1 h2⟩)
      clear hmt hno
      go_wp2_with fail
      refine HC2.out.mono ?_
      rintro e w2 ⟨v, rfl, ho, hb⟩
      obtain ⟨A3, c3, rfl, _, _⟩ := ho.slice
      have HI2 := Lib.hid (HI1.out.of_below hb)
      clear ho hb
      go_wp2_with fail
      go_ret
      exact ⟨_, f, ord, rfl, HI2.out.own, HMAX.out, HI2.out.below⟩
    | some q =>
      have hmem : t ∈ ord := (HSI.out.bfs.keys t).1 (by rw [hmt]; rfl)
      obtain ⟨p, hp, hpt⟩ := List.mem_iff_getElem.1 hmem
      obtain ⟨full, hfol, hsteps, _, hdist, hflen⟩ := HSI.out.bfs.path p t (by rw [List.getElem?_eq_getElem hp, hpt])
      have hol := HSI.out.bfs.length
      have HC2 := Lib.hid (way_any A A1 A2 c c1 c2 l f s t m ord full w1 (HL.out.below HI1.out.below) HSI.out.o1.rdI HSI.out.o2.rdI HSI.out.bfs (.inr ⟨hfol, by rw [List.take_length]; exact hmem⟩) h200)
      have HSTEPS := Lib.hid hsteps
      have HDIST := Lib.hid hdist
      have hfl : full.length ≤ 1000 := by omega
      have HG1 := Lib.hid (HG0.out _ _ HI1.out)
      clear hmt hmem hp hpt hfol hsteps hdist hflen hol
      go_wp2_with fail
      refine HC2.out.mono ?_
      rintro e w2 ⟨v, rfl, ho, hb⟩
      obtain ⟨A3, c3, rfl, hc1, hc2⟩ := ho.slice
      have hrd := ho.rdI
      have h0 : 0 < full.length := by
        rcases full with _ | ⟨p0, ps⟩
        · exact absurd HSTEPS.out.symm HST.out
        · simp
      obtain ⟨a, rfl⟩ := hrd.addr (i := 0) (by rw [List.length_map]; exact h0)
      have hag : a.block ≠ g := by
        intro e
        have h1 := (ho.block (k := a.block) rfl).1
        have h2 := HG1.out
        omega
      have HAG := Lib.hid hag
      have HI3 := Lib.hid (HI1.out.of_below hb)
      have HRD := Lib.hid hrd
      have hne0 : ((full.length : Int) == 0) = false := by rw [beq_eq_false_iff_ne]; omega
      clear ho hb hrd hag HC2
      go_wp2_with fail
      go_loopw [11, 12] (fun nv i wr => ∃ (k : Nat) (n : Int), k ≤ full.length ∧ i = .int .i64 k ∧ nv = .int .i64 n ∧ 0 < n ∧ n ≤ 1000001 ∧ Hid (∀ j, j < k → n ≤ room l f (stepAt full j)) ∧ Hid (Below w2.heap.size w2 wr)) (fun _ i _ => full.length - (intOf i).toNat)
      case atStart => exact ⟨0, 1000001, Nat.zero_le _, rfl, rfl, by omega, by omega, fun j hj => by omega, Below.refl _ _⟩
      case round =>
        obtain ⟨k, n, hk, rfl, rfl, hn1, hn2, HA, HB⟩ := hrel
        have HI4 := Lib.hid (HI3.out.of_below HB.out)
        have HRD4 := Lib.hid (HRD.out.below HB.out)
        by_cases hklt : k < full.length
        · have hres := HSTEPS.out.res _ (List.mem_of_getElem? (stepAt_eq hklt))
          have x0 := HRD4.out.at_ (Below.refl _ _) (i := k) (by rw [List.length_map]; exact hklt)
          rw [encN_at hklt] at x0
          obtain ⟨j, hj⟩ : ∃ j, j = (stepAt full k).1 := ⟨_, rfl⟩
          have hjl : j < l.length := by rw [hj]; exact hres.1
          have i1 : ((j : Int) < (l.length : Int)) := by omega
          have i2 : ((k : Int) < (full.length : Int)) := by omega
          obtain ⟨a0, rfl⟩ := HL.out.addr hjl
          obtain ⟨z0, z1, z2, z3⟩ := HL.out.at_ HI4.out.below hjl
          obtain ⟨g', o', hA', hc0, hc1⟩ := HI4.out.own.cell (j := j) (u := .int .i64 (numAt f j)) (by rw [List.getElem?_map, numAt_eq (by have := HN.out; omega)]; rfl)
          cases hA'
          rw [Nat.zero_add] at hc0 hc1
          have hcap := HF.out.cap j hjl
          have hcst := right_cost HR.out hjl
          have hrm := hres.2
          obtain ⟨y, hy⟩ : ∃ y, y = encN (stepAt full k) := ⟨_, rfl⟩
          rw [← hy] at x0
          unfold encN at hy
          rw [← hj] at hy
          have hrv : room l f (stepAt full k) = if (stepAt full k).2 then numAt f j else (edAt l j).cost - numAt f j := by unfold room; rw [← hj]
          have HRV := Lib.hid hrv
          cases hb : (stepAt full k).2
          · rw [hb] at hy hrv
            simp only [Bool.false_eq_true, if_false] at hy hrv
            rw [hrv] at hrm
            have e3 : y - 1 = (j : Int) := by omega
            have g2 : decide ((0 : Int) < y) = true := by rw [decide_eq_true_eq]; omega
            have HRV := Lib.hid hrv
            have b1 : y ≤ 300 := by omega
            have b2 : -300 ≤ y := by omega
            clear hres hrv hj hy hb
            go_wp2_with fail
            go_quiet (fail)
            go_wp2_with fail
            refine ⟨⟨k + 1, if (edAt l j).cost - numAt f j < n then (edAt l j).cost - numAt f j else n, by omega, by go_num, rfl, by split <;> omega, by split <;> omega, fun j' hj' => ?_, below_drewN HB.out _⟩, by simp [intOf]; omega⟩
            rcases Nat.lt_or_ge j' k with h | h
            · have := HA.out j' h
              split <;> omega
            · have : j' = k := by omega
              subst this
              rw [HRV.out]
              split <;> omega
          · rw [hb] at hy hrv
            simp only [if_true] at hy hrv
            rw [hrv] at hrm
            have e3 : -y - 1 = (j : Int) := by omega
            have g2 : decide ((0 : Int) < y) = false := by rw [decide_eq_false_iff_not]; omega
            have HRV := Lib.hid hrv
            have b1 : y ≤ 300 := by omega
            have b2 : -300 ≤ y := by omega
            clear hres hrv hj hy hb
            go_wp2_with fail
            refine ⟨⟨k + 1, if numAt f j < n then numAt f j else n, by omega, by go_num, rfl, by split <;> omega, by split <;> omega, fun j' hj' => ?_, HB.out⟩, by simp [intOf]; omega⟩
            rcases Nat.lt_or_ge j' k with h | h
            · have := HA.out j' h
              split <;> omega
            · have : j' = k := by omega
              subst this
              rw [HRV.out]
              split <;> omega
        · have hall : ∀ p, p ∈ full → n ≤ room l f p := by
            intro p hp
            obtain ⟨j, hj, rfl⟩ := List.mem_iff_getElem.1 hp
            have h1 := stepAt_eq hj
            rw [List.getElem?_eq_getElem hj] at h1
            rw [Option.some.inj h1]
            exact HA.out j (by omega)
          have haug := HF.out.aug HSTEPS.out HDIST.out hall (by omega) HST.out
          have HAUG := Lib.hid haug
          have HALL := Lib.hid hall
          have i2 : ¬ ((k : Int) < (full.length : Int)) := by omega
          clear haug hall HA
          go_wp2_with fail
          go_loopw [13] (fun i wr => ∃ (k : Nat), k ≤ full.length ∧ i = .int .i64 k ∧ Hid (FR l w wr g (augL n f (full.take k))) ∧ Hid (RdI wr (some a) (full.map encN))) (fun i _ => full.length - (intOf i).toNat)
          case atStart => exact ⟨0, Nat.zero_le _, rfl, by rw [List.take_zero]; exact HI4.out, HRD4.out⟩
          case round =>
            clear HI4 HRD4 i2
            obtain ⟨q, hq, rfl, HI5, HRD5⟩ := hrel
            by_cases hqlt : q < full.length
            · have i2 : ((q : Int) < (full.length : Int)) := by omega
              have hjq := (HSTEPS.out.res _ (List.mem_of_getElem? (stepAt_eq hqlt))).1
              have hval : numAt (augL n f (full.take q)) (stepAt full q).1 = numAt f (stepAt full q).1 := by
                refine aug_other n _ f _ (fun p hp => by rw [HN.out]; exact (HSTEPS.out.res p (List.mem_of_mem_take hp)).1) ?_
                intro hm
                rw [List.map_take] at hm
                obtain ⟨i, hi, hie⟩ := List.mem_iff_getElem.1 hm
                rw [List.length_take, List.length_map] at hi
                rw [List.getElem_take] at hie
                have h2 : (full.map (·.1))[q]'(by rw [List.length_map]; exact hqlt) = (stepAt full q).1 := by
                  rw [List.getElem_map]
                  have := stepAt_eq hqlt
                  rw [List.getElem?_eq_getElem hqlt] at this
                  rw [Option.some.inj this]
                have := (List.getElem_inj (h₀ := by rw [List.length_map]; omega) (h₁ := by rw [List.length_map]; exact hqlt) HDIST.out).1 (hie.trans h2.symm)
                omega
              have hv0 : 0 ≤ numAt (augL n f (full.take q)) (stepAt full q).1 := by rw [hval]; exact (HF.out.cap _ hjq).1
              have hv1 : numAt (augL n f (full.take q)) (stepAt full q).1 ≤ 1000000 := by rw [hval]; exact Int.le_trans (HF.out.cap _ hjq).2 (right_cost HR.out hjq).2
              have hfl' : (augL n f (full.take q)).length = l.length := by rw [augL_length]; exact HN.out
              have hst : FR l w wr g (augL n f (full.take q)) → ∀ W, W = wr.drew → ∀ z, z = numAt (augL n f (full.take q)) (stepAt full q).1 + (if (stepAt full q).2 then -n else n) → FR l w (W.setCell ⟨g, (stepAt full q).1, none⟩ (.int .i64 z)) g (augL n f (full.take (q + 1))) := by
                intro h W hW z hz
                rw [take_step hqlt, augL_snoc, hz]
                have h' : FR l w W g (augL n f (full.take q)) := by rw [hW]; exact ⟨h.own.drew, h.below.drew⟩
                exact h'.store _ _
              have HSTO := Lib.hid (hst HI5.out)
              obtain ⟨j, hj⟩ : ∃ j, j = (stepAt full q).1 := ⟨_, rfl⟩
              have x0 := HRD5.out.at_ (Below.refl _ _) (i := q) (by rw [List.length_map]; exact hqlt)
              rw [encN_at hqlt] at x0
              obtain ⟨y, hy⟩ : ∃ y, y = encN (stepAt full q) := ⟨_, rfl⟩
              rw [← hy] at x0
              unfold encN at hy
              rw [← hj] at hy hv0 hv1 hjq HSTO
              obtain ⟨z, hz⟩ : ∃ z, z = numAt (augL n f (full.take q)) j := ⟨_, rfl⟩
              obtain ⟨g', o', hA', hc0, hc1⟩ := HI5.out.own.cell (j := j) (u := .int .i64 z) (by rw [List.getElem?_map, numAt_eq (by omega), hz]; rfl)
              cases hA'
              rw [Nat.zero_add] at hc0 hc1
              rw [← hz] at hv0 hv1 HSTO
              have i1 : ((j : Int) < (l.length : Int)) := by omega
              have HRD6 := Lib.hid (fun W (hW : W = wr.drew) (v : Value) => (show RdI (W.setCell ⟨g, j, none⟩ v) (some a) (full.map encN) from RdI.set (by rw [hW]; exact HRD5.out) HAG.out v))
              clear hst hval hz hj
              cases hb : (stepAt full q).2
              · rw [hb] at hy HSTO
                simp only [Bool.false_eq_true, if_false] at hy HSTO
                have e3 : y - 1 = (j : Int) := by omega
                have g2 : decide ((0 : Int) < y) = true := by rw [decide_eq_true_eq]; omega
                have b1 : y ≤ 300 := by omega
                have b2 : -300 ≤ y := by omega
                clear hy hb
                go_wp2_with fail
                have w1_ : IntKind.i64.wrap ((j : Int)) = (j : Int) := by rw [wrap_i64]; unfold wrap64; omega
                have w2_ : IntKind.i64.wrap (z + n) = z + n := by rw [wrap_i64]; unfold wrap64; omega
                refine region_tail 17 (by kernel_rfl) (by kernel_rfl) ?_
                intro W hW
                have x0 : W.cell? (a.add q) = some (.int .i64 y) := by rw [hW]; exact x0
                have c0 : W.cell? ⟨g, j, none⟩ = some (.int .i64 z) := by rw [hW]; exact hc0
                have c1 : W.frozen? ⟨g, j, none⟩ = false := by rw [hW]; exact hc1
                have HS1 := Lib.hid (HSTO.out W hW _ rfl)
                have HR1 := Lib.hid (HRD6.out W hW (.int .i64 (z + n)))
                clear HSTO HRD6 hW hc0 hc1 HI5 HRD5
                simp only [List.take_succ_cons, List.take_zero, List.drop_succ_cons, List.drop_zero]
                repeat still_step
                refine wpStill_nil ?_
                go_wp2_with fail
                refine ⟨⟨q + 1, by omega, by go_num, HS1.out, HR1.out⟩, by simp [intOf]; omega⟩
              · rw [hb] at hy HSTO
                simp only [if_true] at hy HSTO
                have e3 : -y - 1 = (j : Int) := by omega
                have g2 : decide ((0 : Int) < y) = false := by rw [decide_eq_false_iff_not]; omega
                have b1 : y ≤ 300 := by omega
                have b2 : -300 ≤ y := by omega
                clear hy hb
                go_wp2_with fail
                have w1_ : IntKind.i64.wrap ((j : Int)) = (j : Int) := by rw [wrap_i64]; unfold wrap64; omega
                have w2_ : IntKind.i64.wrap (z - n) = z - n := by rw [wrap_i64]; unfold wrap64; omega
                have w3_ : IntKind.i64.wrap (-y) = -y := by rw [wrap_i64]; unfold wrap64; omega
                refine region_tail 19 (by kernel_rfl) (by kernel_rfl) ?_
                intro W hW
                have x0 : W.cell? (a.add q) = some (.int .i64 y) := by rw [hW]; exact x0
                have c0 : W.cell? ⟨g, j, none⟩ = some (.int .i64 z) := by rw [hW]; exact hc0
                have c1 : W.frozen? ⟨g, j, none⟩ = false := by rw [hW]; exact hc1
                have HS1 := Lib.hid (HSTO.out W hW (z - n) (by omega))
                have HR1 := Lib.hid (HRD6.out W hW (.int .i64 (z - n)))
                clear HSTO HRD6 hW hc0 hc1 HI5 HRD5
                simp only [List.take_succ_cons, List.take_zero, List.drop_succ_cons, List.drop_zero]
                repeat still_step
                refine wpStill_nil ?_
                go_wp2_with fail
                refine ⟨⟨q + 1, by omega, by go_num, HS1.out, HR1.out⟩, by simp [intOf]; omega⟩
            · have e1 : full.take q = full := List.take_of_length_le (by omega)
              rw [e1] at HI5
              clear e1
              have i2 : ¬ ((q : Int) < (full.length : Int)) := by omega
              have hval : net l (augL n f full) s = net l f s + n := HAUG.out.2
              have hbd := net_bound s l (augL n f full) (fun i hi => ⟨(HAUG.out.1.cap i hi).1, Int.le_trans (HAUG.out.1.cap i hi).2 (right_cost HR.out hi).2⟩)
              have hgh := HG.out
              have HV := Lib.hid (show ((200000001 - net l (augL n f full) s).toNat : Int) + net l (augL n f full) s = 200000001 ∧ (200000001 - net l (augL n f full) s).toNat < gk by omega)
              clear hval hbd hgh
              go_wp2_with fail
              go_roundg (200000001 - net l (augL n f full) s).toNat
              case measure => exact HV.out.2
              case rel => exact ⟨augL n f full, HV.out.1, HAUG.out.1, HI5.out⟩
end Go.Proofs.Ytambnjhopijkfaa
