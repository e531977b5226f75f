/- Plain words on homes and bases: what is stranded is not home; the path of a shortest way leads home; nothing but bases without runs and lifts. -/
import Derived.Test.YtoeiongnjogpeaaWLead
namespace Go.Proofs.Ytoeiongnjogpeaa
open Go.RowKit
theorem PathR.distinct {l : List Edge} (hr : Right l) {b : Int → Option CK} {t : Int} {u : Int} {ids : List Int} (h : PathR l b t u ids) : ∀ (v : CK), b u = some v → ids.Nodup ∧ ∀ i ∈ ids, ∃ e ∈ l, e.id = i ∧ ∃ x, b e.src = some x ∧ leC x v := by
  induction h with
  | nil => exact fun _ _ => ⟨List.nodup_nil, fun i hi => by cases hi⟩
  | cons u e ids hne hf _ ih =>
    intro v hv
    have hg := List.find?_some hf
    have hm := List.mem_of_find?_eq_some hf
    unfold goodB at hg
    rw [Bool.and_eq_true] at hg
    obtain ⟨h1, h2⟩ := hg
    cases hd : b e.dst with
    | none => rw [hd] at h2; simp at h2
    | some x =>
      rw [hd] at h2
      simp only [decide_eq_true_eq] at h1 h2
      rw [hv] at h2
      have hvx := Option.some.inj h2
      obtain ⟨i1, i2⟩ := ih x hd
      have hlt : ltC x v := by rw [hvx]; exact addC_lt e x
      refine ⟨List.nodup_cons.2 ⟨fun hin => ?_, i1⟩, fun i hi => ?_⟩
      · obtain ⟨e', he', hid, y, hy, hle⟩ := i2 _ hin
        have h3 := findE_id hr he'
        rw [hid, findE_id hr hm] at h3
        cases h3
        rw [h1, hv] at hy
        cases hy
        exact hle hlt
      · rcases List.mem_cons.1 hi with rfl | hi
        · exact ⟨e, hm, rfl, v, by rw [h1, hv], leC_refl v⟩
        · obtain ⟨e', he', hid, y, hy, hle⟩ := i2 _ hi
          refine ⟨e', he', hid, y, hy, ?_⟩
          have hle2 : leC x v := by
            rw [leC_iff]
            unfold ltC at hlt
            omega
          exact leC_trans hle hle2
theorem ShortR.len {E : List Edge} (hr : Right E) {u b : Int} {ids : List Int} {n : Int} {ok : Bool} (h : ShortR E u b ids n ok) : ids.length ≤ 200 := by
  obtain ⟨B, hB, h⟩ := h
  rcases h with ⟨_, rfl, _, _⟩ | ⟨v, h1, h2, rfl, _⟩
  · simp
  · obtain ⟨d1, d2⟩ := h2.distinct hr v h1
    have hsub : ∀ x ∈ ids, x ∈ E.map (·.id) := fun x hx => by
      obtain ⟨e, he, hid, _⟩ := d2 x hx
      exact List.mem_map.2 ⟨e, he, hid⟩
    have := IMap.nodup_le d1 hsub
    rw [List.length_map] at this
    have := hr.len
    omega
theorem WaySt.len {E : List Edge} (hr : Right E) {u : Int} {bs : List Int} {st : WSt} (h : WaySt E u bs st) : st.1.length ≤ 200 := by
  induction h with
  | nil => simp
  | snoc bs b st ids n ok _ hs ih =>
    unfold stepW
    split
    · exact ih
    · split
      · exact hs.len hr
      · exact ih
theorem WayS.len {m : MapM} (ok : MapOk m) {runs : List Int} {u : Int} {st : WSt} (h : WayS m runs u st) : st.1.length ≤ 200 := by
  unfold WayS at h
  cases hf : findNode m.nodes u with
  | none => rw [hf] at h; subst h; simp
  | some y => rw [hf] at h; exact WaySt.len (ok.down runs) h
theorem lead_way {x : OpenM} (ok : MapOk x.m) {u : Int} {st : WSt} (h : WayS x.m x.runs u st) (hy : st.2.2 = true) : leadR x st.1 u = (st.2.1, true) := by
  unfold WayS at h
  cases hf : findNode x.m.nodes u with
  | none => rw [hf] at h; subst h; cases hy
  | some y =>
    rw [hf] at h
    obtain ⟨⟨b, hb, hw⟩, _⟩ := (WaySt.fold (ok.down x.runs) h).yes hy
    unfold leadR
    rw [hw]
    exact congrArg _ (decide_eq_true hb)
theorem str_mem {m : MapM} {lifts runs bad ss hs : List Int} (h : StrS m lifts runs bad) (hr : Reached m lifts runs ss) (hh : HomeS m runs hs) {z : Int} (hz : z ∈ ss) : decide (z ∈ bad) = !decide (z ∈ hs) := by
  obtain ⟨s1, h1, r1, q1, rfl⟩ := h
  rw [RS5.uniq2 r1 hr, RS5.uniq2 q1 hh]
  by_cases hc : z ∈ hs
  · rw [decide_eq_true hc]; exact decide_eq_false fun h => (minusL_mem.1 h).2 hc
  · rw [decide_eq_false hc]; exact decide_eq_true (minusL_mem.2 ⟨hz, hc⟩)
theorem str_way {m : MapM} (ok : MapOk m) {lifts runs bad ss : List Int} (h : StrS m lifts runs bad) (hr : Reached m lifts runs ss) {z : Int} (hz : z ∈ ss) {st : WSt} (k : WayS m runs z st) : decide (z ∈ bad) = !st.2.2 := by
  obtain ⟨s1, h1, r1, q1, e⟩ := h
  obtain ⟨y, hy⟩ := reached_node ok hr z hz
  rw [way_home ok q1 hy k]
  exact str_mem ⟨s1, h1, r1, q1, e⟩ hr q1 hz
theorem str_sub {m : MapM} {lifts runs bad ss : List Int} (h : StrS m lifts runs bad) (hr : Reached m lifts runs ss) : ∀ z ∈ bad, z ∈ ss := by
  obtain ⟨s1, h1, r1, q1, rfl⟩ := h
  rw [RS5.uniq2 hr r1]
  exact fun z hz => (minusL_mem.1 hz).1
theorem needs_none {m : MapM} {lifts runs bad now : List Int} {q : Int} {zs : List Int} (h : NeedsS m lifts runs q zs) (hz : zs = []) (hb : StrS m lifts runs bad) (hn : StrS m lifts (minusL runs [q]) now) : ∀ z ∈ now, z ∈ bad := by
  obtain ⟨a, b, h1, h2, h3⟩ := h
  rw [StrS.uniq hn h1, StrS.uniq hb h2]
  intro z hzm
  by_cases hc : z ∈ b
  · exact hc
  · have := minusL_mem.2 ⟨hzm, hc⟩
    rw [← h3, hz] at this
    cases this
theorem base_way {m : MapM} (ok : MapOk m) {runs : List Int} {b : Int} (hb : b ∈ m.bases) {st : WSt} (h : WayS m runs b st) : st.1.length = 0 ∧ st.2.1 = 0 ∧ st.2.2 = true := by
  obtain ⟨y, hy⟩ := ok.bases b hb
  unfold WayS at h
  rw [hy] at h
  have F := WaySt.fold (ok.down runs) h
  cases hs : st.2.2 with
  | false => exact absurd Walk.nil ((F.no hs).2.2 b hb (0, 0))
  | true =>
    obtain ⟨_, ⟨b', _, v, _, h1, h2⟩, h3⟩ := F.yes hs
    have := h3 b hb (0, 0) Walk.nil
    simp only at this
    refine ⟨?_, ?_, rfl⟩ <;> omega
theorem RS5.bare {f s : List Int} (h : RS5 [] f s) (hf : f.Pairwise (· < ·)) : s = f :=
  sorted_ext2 h.sorted hf fun x => ⟨fun hx => h.sound (· ∈ f) (fun _ h => h) (fun e he => by cases he) x hx, fun hx => h.sub x hx⟩
theorem downL_none (l : List RunM) : downL l [] = [] := by
  unfold downL
  rw [List.filter_eq_nil_iff.2 (by simp)]
  rfl
theorem upL_none (l : List LiftM) : upL l [] = [] := by
  unfold upL
  rw [List.filter_eq_nil_iff.2 (by simp)]
  rfl
theorem reached_bare {m : MapM} (ok : MapOk m) {s : List Int} (h : Reached m [] [] s) : s = m.bases := by
  unfold Reached waysE at h
  rw [upL_none, downL_none] at h
  exact RS5.bare h ok.basesUp
theorem home_bare {m : MapM} (ok : MapOk m) {s : List Int} (h : HomeS m [] s) : s = m.bases := by
  unfold HomeS at h
  rw [downL_none] at h
  exact RS5.bare h ok.basesUp
theorem str_bare {m : MapM} (ok : MapOk m) {s : List Int} (h : StrS m [] [] s) : s = [] := by
  obtain ⟨s1, h1, r1, q1, rfl⟩ := h
  rw [reached_bare ok r1, home_bare ok q1]
  unfold minusL
  exact List.filter_eq_nil_iff.2 (by simp)
theorem wway_ex (V : MapA) (m : MapM) (ok : MapOk m) (G : Option Addr) (c : Nat) (runs : List Int) (u : Int) (w : World) (hm : RdM w V m) (hg : RdI w G runs) :
    Calls Try.prog 29 #[mapV V m, .slice G runs.length c, .int .i64 u] w (fun e w' => ∃ (A' : Option Addr) (c' : Nat) (ids : List Int) (n : Int) (okw : Bool), e = .returned (.tuple #[.slice A' ids.length c', .int .i64 n, .bool okw]) ∧ WayS m runs u (ids, n, okw) ∧ RdI w' A' ids ∧ Below w.heap.size w w') :=
  (wway_any V m ok G c runs u w hm hg).mono (by
    rintro e w' ⟨A', c', ⟨ids, n, okw⟩, rfl, h1, h2, h3⟩
    exact ⟨A', c', ids, n, okw, rfl, h1, h2, h3⟩)
theorem rdI_bare (W : World) : RdI W none [] := ⟨by simp, fun i h => by simp at h⟩
theorem wreach_bare (V : MapA) (m : MapM) (ok : MapOk m) (w : World) (hm : RdM w V m) :
    Calls Try.prog 24 #[mapV V m, .slice none 0 0, .slice none 0 0] w (fun e w' => ∃ (A' : Option Addr) (c' : Nat), e = .returned (.slice A' m.bases.length c') ∧ RdI w' A' m.bases ∧ Below w.heap.size w w') :=
  (wreach_any V m ok none none 0 0 [] [] w hm (rdI_bare w) (rdI_bare w)).mono (by
    rintro e w' ⟨A', c', ss, rfl, h1, h2, h3⟩
    obtain rfl := reached_bare ok h1
    exact ⟨A', c', rfl, h2, h3⟩)
theorem whome_bare (V : MapA) (m : MapM) (ok : MapOk m) (w : World) (hm : RdM w V m) :
    Calls Try.prog 14 #[mapV V m, .slice none 0 0] w (fun e w' => ∃ (A' : Option Addr) (c' : Nat), e = .returned (.slice A' m.bases.length c') ∧ RdI w' A' m.bases ∧ Below w.heap.size w w') :=
  (whome_any V m ok none 0 [] w hm (rdI_bare w)).mono (by
    rintro e w' ⟨A', c', ss, rfl, h1, h2, h3⟩
    obtain rfl := home_bare ok h1
    exact ⟨A', c', rfl, h2, h3⟩)
theorem wstr_bare (V : MapA) (m : MapM) (ok : MapOk m) (w : World) (hm : RdM w V m) :
    Calls Try.prog 27 #[mapV V m, .slice none 0 0, .slice none 0 0] w (fun e w' => ∃ (A' : Option Addr) (c' : Nat), e = .returned (.slice A' 0 c') ∧ Below w.heap.size w w') :=
  (wstr_any V m ok none none 0 0 [] [] w hm (rdI_bare w) (rdI_bare w)).mono (by
    rintro e w' ⟨A', c', ss, rfl, h1, h2, h3⟩
    obtain rfl := str_bare ok h1
    exact ⟨A', c', rfl, h3⟩)
end Go.Proofs.Ytoeiongnjogpeaa
