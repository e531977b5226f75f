/- Plain words on shortest ways home: what the fold over the bases picks; more runs; nodes that are home. -/
import Derived.Test.YtoeiongnjogpeaaWSmall
import Derived.Test.YtoeiongnjogpeaaWalkP
namespace Go.Proofs.Ytoeiongnjogpeaa
open Go.RowKit
def leW (a : List Int) (n : Int) (b : List Int) (k : Int) : Prop := n < k ∨ n = k ∧ a.length ≤ b.length
theorem leW_refl (a : List Int) (n : Int) : leW a n a n := .inr ⟨rfl, Nat.le_refl _⟩
theorem leW_trans {a b c : List Int} {n k j : Int} (h : leW a n b k) (g : leW b k c j) : leW a n c j := by
  unfold leW at *; omega
theorem better_le {a b : List Int} {n k : Int} (h : betterB a n b k = true) : leW a n b k := by
  unfold leW
  rcases Int.lt_trichotomy n k with h1 | h1 | h1
  · exact .inl h1
  · subst h1
    by_cases hl : a.length = b.length
    · exact .inr ⟨rfl, by omega⟩
    · rw [betterB_len hl] at h
      exact .inr ⟨rfl, Nat.le_of_lt (of_decide_eq_true h)⟩
  · rw [betterB_gt h1] at h; cases h
theorem better_ge {a b : List Int} {n k : Int} (h : betterB a n b k = false) : leW b k a n := by
  unfold leW
  rcases Int.lt_trichotomy n k with h1 | h1 | h1
  · rw [betterB_lt h1] at h; cases h
  · subst h1
    by_cases hl : a.length = b.length
    · exact .inr ⟨rfl, by omega⟩
    · rw [betterB_len hl] at h
      have := of_decide_eq_false h
      exact .inr ⟨rfl, by omega⟩
  · exact .inl h1
theorem ShortR.facts {E : List Edge} (hr : Right E) {u b : Int} {ids : List Int} {n : Int} (h : ShortR E u b ids n true) :
    walkF E ids 0 u = some (n, b) ∧ (∃ v : CK, Walk E b u v ∧ n = v.1 ∧ ids.length = v.2) ∧ ∀ z : CK, Walk E b u z → n < z.1 ∨ n = z.1 ∧ ids.length ≤ z.2 := by
  obtain ⟨B, hB, h⟩ := h
  rcases h with ⟨_, _, _, h0⟩ | ⟨v, h1, h2, rfl, _⟩
  · cases h0
  · obtain ⟨f1, f2⟩ := h2.follow hr hB v h1
    refine ⟨by rw [f2 0]; simp, ⟨v, hB.sound _ _ h1, rfl, f1⟩, fun z hz => ?_⟩
    obtain ⟨y, hy, hle⟩ := hB.least _ _ hz
    rw [h1] at hy; cases hy
    rw [leC_iff] at hle
    omega
theorem ShortR.none_facts {E : List Edge} {u b : Int} {ids : List Int} {n : Int} (h : ShortR E u b ids n false) : ∀ z : CK, ¬ Walk E b u z := by
  obtain ⟨B, hB, h⟩ := h
  rcases h with ⟨h1, _, _, _⟩ | ⟨v, _, _, _, h0⟩
  · intro z hz
    obtain ⟨y, hy, _⟩ := hB.least _ _ hz
    rw [h1] at hy; cases hy
  · cases h0
/-- What Way's fold picks. -/
structure WayF (E : List Edge) (u : Int) (bs : List Int) (st : WSt) : Prop where
  yes : st.2.2 = true → (∃ b ∈ bs, walkF E st.1 0 u = some (st.2.1, b)) ∧ (∃ b ∈ bs, ∃ v : CK, Walk E b u v ∧ st.2.1 = v.1 ∧ st.1.length = v.2) ∧ ∀ b ∈ bs, ∀ z : CK, Walk E b u z → st.2.1 < z.1 ∨ st.2.1 = z.1 ∧ st.1.length ≤ z.2
  no : st.2.2 = false → st.1 = [] ∧ st.2.1 = 0 ∧ ∀ b ∈ bs, ∀ z : CK, ¬ Walk E b u z
theorem WaySt.fold {E : List Edge} (hr : Right E) {u : Int} {bs : List Int} {st : WSt} (h : WaySt E u bs st) : WayF E u bs st := by
  induction h with
  | nil => exact ⟨(fun h => by cases h), fun _ => ⟨rfl, rfl, by simp⟩⟩
  | snoc bs b st ids n ok _ hs ih =>
    cases ok with
    | false =>
      have e : stepW st (ids, n, false) = st := by unfold stepW; simp
      rw [e]
      have hn := hs.none_facts
      refine ⟨fun hy => ?_, fun hf => ?_⟩
      · obtain ⟨⟨b1, hb1, h1⟩, ⟨b2, hb2, h2⟩, h3⟩ := ih.yes hy
        refine ⟨⟨b1, List.mem_append_left _ hb1, h1⟩, ⟨b2, List.mem_append_left _ hb2, h2⟩, fun b' hb' z hz => ?_⟩
        rcases List.mem_append.1 hb' with h | h
        · exact h3 b' h z hz
        · obtain rfl : b' = b := by simpa using h
          exact absurd hz (hn z)
      · obtain ⟨h1, h2, h3⟩ := ih.no hf
        refine ⟨h1, h2, fun b' hb' z hz => ?_⟩
        rcases List.mem_append.1 hb' with h | h
        · exact h3 b' h z hz
        · obtain rfl : b' = b := by simpa using h
          exact hn z hz
    | true =>
      obtain ⟨g1, g2, g3⟩ := hs.facts hr
      have take : (∀ b' ∈ bs, ∀ z : CK, Walk E b' u z → n < z.1 ∨ n = z.1 ∧ ids.length ≤ z.2) → WayF E u (bs ++ [b]) (ids, n, true) := fun hle => by
        refine ⟨fun _ => ⟨⟨b, List.mem_append_right _ (by simp), g1⟩, ⟨b, List.mem_append_right _ (by simp), g2⟩, fun b' hb' z hz => ?_⟩, fun h => by cases h⟩
        rcases List.mem_append.1 hb' with h | h
        · exact hle b' h z hz
        · obtain rfl : b' = b := by simpa using h
          exact g3 z hz
      by_cases hst : st.2.2 = false
      · have e : stepW st (ids, n, true) = (ids, n, true) := by unfold stepW; simp [hst]
        rw [e]
        exact take fun b' hb' z hz => absurd hz ((ih.no hst).2.2 b' hb' z)
      · have hst' : st.2.2 = true := by simpa using hst
        obtain ⟨⟨b1, hb1, h1⟩, ⟨b2, hb2, h2⟩, h3⟩ := ih.yes hst'
        cases hbt : betterB ids n st.1 st.2.1 with
        | true =>
          have e : stepW st (ids, n, true) = (ids, n, true) := by unfold stepW; simp [hbt]
          rw [e]
          have hle := better_le hbt
          unfold leW at hle
          exact take fun b' hb' z hz => by have := h3 b' hb' z hz; omega
        | false =>
          have e : stepW st (ids, n, true) = st := by unfold stepW; simp [hbt, hst']
          rw [e]
          have hle := better_ge hbt
          unfold leW at hle
          refine ⟨fun _ => ⟨⟨b1, List.mem_append_left _ hb1, h1⟩, ⟨b2, List.mem_append_left _ hb2, h2⟩, fun b' hb' z hz => ?_⟩, fun h => by rw [hst'] at h; cases h⟩
          rcases List.mem_append.1 hb' with h | h
          · exact h3 b' h z hz
          · obtain rfl : b' = b := by simpa using h
            have := g3 z hz
            omega
theorem downL_mono {l : List RunM} {a b : List Int} (h : ∀ x ∈ a, x ∈ b) : ∀ e ∈ downL l a, e ∈ downL l b := fun e he => by
  obtain ⟨x, hx, hi, rfl⟩ := mem_downL.1 he
  exact mem_downL.2 ⟨x, hx, h _ hi, rfl⟩
theorem upL_mono {l : List LiftM} {a b : List Int} (h : ∀ x ∈ a, x ∈ b) : ∀ e ∈ upL l a, e ∈ upL l b := fun e he => by
  obtain ⟨x, hx, hi, rfl⟩ := mem_upL.1 he
  exact mem_upL.2 ⟨x, hx, h _ hi, rfl⟩
theorem Reached.mono {m : MapM} {a b c d s t : List Int} (ha : ∀ x ∈ a, x ∈ b) (hc : ∀ x ∈ c, x ∈ d) (h : Reached m a c s) (k : Reached m b d t) : ∀ z ∈ s, z ∈ t :=
  RS5.fewer (fun e he => by
    unfold waysE at he ⊢
    rcases List.mem_append.1 he with he | he
    · exact List.mem_append_left _ (upL_mono ha e he)
    · exact List.mem_append_right _ (downL_mono hc e he)) h k
theorem HomeS.mono {m : MapM} {c d s t : List Int} (hc : ∀ x ∈ c, x ∈ d) (h : HomeS m c s) (k : HomeS m d t) : ∀ z ∈ s, z ∈ t :=
  RS5.fewer (fun e he => by
    obtain ⟨x, hx, rfl⟩ := List.mem_map.1 he
    exact List.mem_map.2 ⟨x, downL_mono hc x hx, rfl⟩) h k
/-- More runs: no way is longer. -/
theorem way_more {m : MapM} (ok : MapOk m) {c d : List Int} (hc : ∀ x ∈ c, x ∈ d) {u : Int} {st su : WSt} (h : WayS m c u st) (k : WayS m d u su) (hy : st.2.2 = true) : su.2.2 = true ∧ su.2.1 ≤ st.2.1 := by
  unfold WayS at h k
  cases hf : findNode m.nodes u with
  | none =>
    rw [hf] at h
    subst h
    cases hy
  | some x =>
    rw [hf] at h k
    obtain ⟨_, ⟨b, hb, v, hv, hn, _⟩, _⟩ := (WaySt.fold (ok.down c) h).yes hy
    have hw := hv.mono (downL_mono hc)
    have F := WaySt.fold (ok.down d) k
    cases hs : su.2.2 with
    | false => exact absurd hw ((F.no hs).2.2 b hb v)
    | true =>
      refine ⟨rfl, ?_⟩
      have := (F.yes hs).2.2 b hb v hw
      omega
/-- Home: where a way to a base begins. -/
theorem home_iff {m : MapM} {runs hs : List Int} (h : HomeS m runs hs) {x : Int} : x ∈ hs ↔ ∃ b ∈ m.bases, ∃ v : CK, Walk (downL m.runs runs) b x v := by
  constructor
  · refine h.sound (fun z => ∃ b ∈ m.bases, ∃ v : CK, Walk (downL m.runs runs) b z v) (fun y hy => ⟨y, hy, (0, 0), Walk.nil⟩) (fun e he hs => ?_) x
    obtain ⟨e', he', rfl⟩ := List.mem_map.1 he
    obtain ⟨b, hb, v, hv⟩ := hs
    exact ⟨b, hb, _, Walk.cons e' v he' hv⟩
  · rintro ⟨b, hb, v, hv⟩
    induction hv with
    | nil => exact h.sub _ hb
    | cons e v he _ ih => exact h.closed (turnE e) (List.mem_map.2 ⟨e, he, rfl⟩) ih
theorem reached_node {m : MapM} (ok : MapOk m) {lifts runs ss : List Int} (h : Reached m lifts runs ss) : ∀ x ∈ ss, ∃ y, findNode m.nodes x = some y := by
  refine h.sound (fun z => ∃ y, findNode m.nodes z = some y) (fun y hy => ok.bases y hy) (fun e he _ => ?_)
  unfold waysE at he
  rcases List.mem_append.1 he with he | he
  · obtain ⟨l, hl, _, rfl⟩ := mem_upL.1 he
    obtain ⟨_, _, _, _, _, _, a, b, ha, hb, _⟩ := ok.lifts l hl
    exact ⟨b, hb⟩
  · obtain ⟨l, hl, _, rfl⟩ := mem_downL.1 he
    obtain ⟨_, _, _, _, _, a, b, ha, hb, _⟩ := ok.runs l hl
    exact ⟨a, ha⟩
/-- A way is found exactly from where it is home. -/
theorem way_home {m : MapM} (ok : MapOk m) {runs hs : List Int} (h : HomeS m runs hs) {u : Int} {y : NodeM} (hu : findNode m.nodes u = some y) {st : WSt} (k : WayS m runs u st) : st.2.2 = decide (u ∈ hs) := by
  unfold WayS at k
  rw [hu] at k
  have F := WaySt.fold (ok.down runs) k
  cases hs' : st.2.2 with
  | true =>
    obtain ⟨_, ⟨b, hb, v, hv, _⟩, _⟩ := F.yes hs'
    exact (decide_eq_true ((home_iff h).2 ⟨b, hb, v, hv⟩)).symm
  | false =>
    refine (decide_eq_false fun hm => ?_).symm
    obtain ⟨b, hb, v, hv⟩ := (home_iff h).1 hm
    exact (F.no hs').2.2 b hb v hv
theorem minusL_mem {a b : List Int} {x : Int} : x ∈ minusL a b ↔ x ∈ a ∧ x ∉ b := by
  unfold minusL
  rw [List.mem_filter]
  simp
theorem findE_down (l : List RunM) (ids : List Int) (i : Int) : findE (downL l ids) i = if i ∈ ids then (findRun l i).map runE else none := by
  unfold findE downL findRun
  induction l with
  | nil => simp
  | cons x l ih =>
    by_cases hx : x.id ∈ ids
    · rw [List.filter_cons_of_pos (by simpa using hx), List.map_cons, List.find?_cons, List.find?_cons]
      by_cases he : x.id = i
      · have h1 : decide ((runE x).id = i) = true := by simp [runE, he]
        have h2 : decide (x.id = i) = true := by simp [he]
        rw [h1, h2, if_pos (he ▸ hx)]
        rfl
      · have h1 : decide ((runE x).id = i) = false := by simp [runE, he]
        have h2 : decide (x.id = i) = false := by simp [he]
        rw [h1, h2]
        exact ih
    · rw [List.filter_cons_of_neg (by simpa using hx), List.find?_cons]
      by_cases he : x.id = i
      · have h2 : decide (x.id = i) = true := by simp [he]
        rw [h2, ih, if_neg (he ▸ hx), if_neg (he ▸ hx)]
      · have h2 : decide (x.id = i) = false := by simp [he]
        rw [h2]
        exact ih
end Go.Proofs.Ytoeiongnjogpeaa
