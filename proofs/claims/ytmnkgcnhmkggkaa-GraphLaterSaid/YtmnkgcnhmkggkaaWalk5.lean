/- Proved here: the law's function walk follows a path of edges. Condition: accepted edges. -/
import Derived.Test.YtmnkgcnhmkggkaaEdge5
import Derived.IntWalk
namespace Go.Proofs.Ytmnkgcnhmkggkaa
open Go.RowKit
def walkF (l : List Edge) : List Int → Int → Int → Option (Int × Int)
  | [], n, x => some (n, x)
  | i :: ids, n, x => match findE l i with
    | none => none
    | some e => if e.src = x then walkF l ids (n + e.cost) e.dst else none
theorem walkF_cons (l : List Edge) (i : Int) (ids : List Int) (n x : Int) : walkF l (i :: ids) n x = (match findE l i with
    | none => none
    | some e => if e.src = x then walkF l ids (n + e.cost) e.dst else none) := rfl
def walkR (l : List Edge) (ids : List Int) (f t : Int) : Int × Bool := match walkF l ids 0 f with
  | none => (0, false)
  | some (n, x) => (n, x == t)
set_option maxRecDepth 100000 in
set_option maxHeartbeats 4000000 in
theorem walk_any (A F : Option Addr) (c d : Nat) (l : List Edge) (ids : List Int) (f t : Int) (w : World) (hl : RdE w A l) (hf : RdI w F ids) (hr : Right l) (hlen : ids.length ≤ 1000) :
    Calls Try.prog 25 #[.slice A l.length c, .slice F ids.length d, .int .i64 f, .int .i64 t] w fun e w' => e = .returned (.tuple #[.int .i64 (walkR l ids f t).1, .bool (walkR l ids f t).2]) ∧ Below w.heap.size w w' := by
  have hm := hl.1
  have HL := Lib.hid hl
  have HF := Lib.hid hf
  have HR := Lib.hid hr
  have HE := Lib.hid (fun i W (h : Below w.heap.size w W) => edge_any A c l i W (hl.below h))
  clear hl hf hr
  go_enter Try.func25, Try.ntmps25
  go_wp2_with fail
  go_loopw [10, 11, 12] (fun nv xv i wr => ∃ (k : Nat) (n x : Int), k ≤ ids.length ∧ i = .int .i64 k ∧ nv = .int .i64 n ∧ xv = .int .i64 x ∧ 0 ≤ n ∧ n ≤ k * 1000000 ∧ Hid (walkF l (ids.drop k) n x = walkF l ids 0 f) ∧ Hid (Below w.heap.size w wr)) (fun _ _ i _ => ids.length - (intOf i).toNat)
  case atStart => exact ⟨0, 0, f, Nat.zero_le _, rfl, rfl, rfl, by omega, by omega, rfl, Below.refl _ _⟩
  case round =>
    obtain ⟨k, n, x, hk, rfl, rfl, rfl, hn0, hn1, HI, HB⟩ := hrel
    by_cases hlt : k < ids.length
    · have i1 : ((k : Int) < (ids.length : Int)) := by omega
      obtain ⟨a, rfl⟩ := HF.out.addr hlt
      have c0 := HF.out.at_ HB.out hlt
      have HST := HI.out
      rw [drop_num hlt, walkF_cons] at HST
      have HC := HE.out (numAt ids k) wr HB.out
      unfold edgeR at HC
      cases hfe : findE l (numAt ids k) with
      | none =>
        rw [hfe] at HC HST
        dsimp only at HC HST
        have HRS := Lib.hid (show walkR l ids f t = (0, false) by unfold walkR; rw [← HST])
        have HC' := Lib.hid HC
        clear HC HST hfe
        go_wp2_with fail
        refine HC'.out.mono ?_
        rintro e w1 ⟨rfl, hb⟩
        have HB1 := Lib.hid (below_in HB.out hb HB.out.size)
        clear hb HC'
        go_wp2_with fail
        go_ret2
        exact ⟨by rw [HRS.out]; rfl, HB1.out.alloc HB1.out.size _⟩
      | some ed =>
        rw [hfe] at HC HST
        dsimp only at HC HST
        have hmem : ed ∈ l := List.mem_of_find?_eq_some hfe
        have hok := HR.out.ok ed hmem
        unfold EdgeOk at hok
        have HC' := Lib.hid HC
        clear HC hfe hmem
        by_cases hs : ed.src = x
        · rw [if_pos hs] at HST
          have hs' : (ed.src != x) = false := by simp [hs]
          have HN := Lib.hid HST
          have W_ := Lib.hid (show IntKind.i64.wrap (n + ed.cost) = n + ed.cost from IntWalk.i64_in _ (by omega))
          clear HST hs
          go_wp2_with fail
          refine HC'.out.mono ?_
          rintro e w1 ⟨rfl, hb⟩
          have HB1 := Lib.hid (below_in HB.out hb HB.out.size)
          clear hb HC'
          have y1 := box_cell w1 #[.int .i64 ed.id, .int .i64 ed.src, .int .i64 ed.dst, .int .i64 ed.cost] 42 1 _ rfl
          have y2 := box_cell w1 #[.int .i64 ed.id, .int .i64 ed.src, .int .i64 ed.dst, .int .i64 ed.cost] 42 2 _ rfl
          have y3 := box_cell w1 #[.int .i64 ed.id, .int .i64 ed.src, .int .i64 ed.dst, .int .i64 ed.cost] 42 3 _ rfl
          go_wp2_with fail
          have w_ := W_.out
          go_big_quiet (fail)
          clear w_ y1 y2 y3
          go_wp2_with fail
          go_roundw
          case rel => exact ⟨k + 1, n + ed.cost, ed.dst, by omega, by go_num, rfl, rfl, by omega, by omega, HN.out, below_drewN (HB1.out.alloc HB1.out.size _) _⟩
          case measure => simp [intOf]; omega
        · rw [if_neg hs] at HST
          have hs' : (ed.src != x) = true := by simp [hs]
          have HRS := Lib.hid (show walkR l ids f t = (0, false) by unfold walkR; rw [← HST])
          clear HST hs
          go_wp2_with fail
          refine HC'.out.mono ?_
          rintro e w1 ⟨rfl, hb⟩
          have HB1 := Lib.hid (below_in HB.out hb HB.out.size)
          clear hb HC'
          go_wp2_with fail
          go_ret2
          exact ⟨by rw [HRS.out]; rfl, HB1.out.alloc HB1.out.size _⟩
    · have HRS := Lib.hid (show walkR l ids f t = (n, x == t) by
        have := HI.out
        rw [List.drop_of_length_le (by omega)] at this
        unfold walkR
        rw [← this]; rfl)
      have i1 : ¬ ((k : Int) < (ids.length : Int)) := by omega
      go_wp2_with fail
      go_ret2
      exact ⟨by rw [HRS.out]; rfl, HB.out⟩
theorem findE_id {l : List Edge} (hr : Right l) {e : Edge} (he : e ∈ l) : findE l e.id = some e := by
  obtain ⟨k, hk, rfl⟩ := mem_edAt he
  exact find_at hk (by simp) (fun i hi => decide_eq_false (hr.ids i k hi hk))
/-- A best path, followed. -/
theorem PathR.follow {l : List Edge} (hr : Right l) {b : Int → Option CK} {t : Int} (hb : Best l t b) {u : Int} {ids : List Int} (h : PathR l b t u ids) : ∀ (v : CK), b u = some v → ids.length = v.2 ∧ ∀ n : Int, walkF l ids n u = some (n + v.1, t) := by
  induction h with
  | nil =>
    intro v hv
    rw [hb.zero] at hv
    cases hv
    exact ⟨rfl, fun n => by simp [walkF]⟩
  | cons u e ids hne hf _ ih =>
    intro v hv
    have hg := List.find?_some hf
    have hm := List.mem_of_find?_eq_some hf
    unfold goodB at hg
    rw [Bool.and_eq_true] at hg
    obtain ⟨h1, h2⟩ := hg
    cases hd : b e.dst with
    | none => rw [hd] at h2; simp at h2
    | some x =>
      rw [hd] at h2
      simp only [decide_eq_true_eq] at h1 h2
      rw [hv] at h2
      have hvx := Option.some.inj h2
      obtain ⟨i1, i2⟩ := ih x hd
      have hok := hr.ok e hm
      unfold EdgeOk at hok
      refine ⟨by rw [hvx]; simp [addC, i1], fun n => ?_⟩
      unfold walkF
      rw [findE_id hr hm]
      dsimp only
      rw [if_pos h1, i2, hvx]
      simp only [addC, Option.some.injEq, Prod.mk.injEq, and_true]
      omega
/-- What is followed is a way. -/
theorem follow_walk {l : List Edge} (hr : Right l) {t : Int} : ∀ (ids : List Int) (n u m : Int), walkF l ids n u = some (m, t) → ∃ v : CK, Walk l t u v ∧ m = n + v.1 ∧ v.2 = ids.length
  | [], n, u, m, h => by
    simp only [walkF, Option.some.injEq, Prod.mk.injEq] at h
    obtain ⟨rfl, rfl⟩ := h
    exact ⟨(0, 0), Walk.nil, by simp, rfl⟩
  | i :: ids, n, u, m, h => by
    unfold walkF at h
    cases hf : findE l i with
    | none => rw [hf] at h; cases h
    | some e =>
      rw [hf] at h
      dsimp only at h
      have hm : e ∈ l := List.mem_of_find?_eq_some hf
      have hok := hr.ok e hm
      unfold EdgeOk at hok
      by_cases hs : e.src = u
      · rw [if_pos hs] at h
        obtain ⟨v, hv, h1, h2⟩ := follow_walk hr ids _ _ _ h
        refine ⟨addC e v, hs ▸ Walk.cons e v hm hv, ?_, by simp [addC, h2]⟩
        simp only [addC]
        omega
      · rw [if_neg hs] at h; cases h
theorem ShortR.iff_walk {l : List Edge} {a b : Int} {x : List Int} {n : Int} {ok : Bool} (h : ShortR l a b x n ok) : ok = true ↔ ∃ v, Walk l b a v := by
  obtain ⟨B, hB, h⟩ := h
  rcases h with ⟨h1, _, _, rfl⟩ | ⟨v, h1, _, _, rfl⟩
  · refine ⟨(fun h => by cases h), fun ⟨v, hv⟩ => ?_⟩
    obtain ⟨z, hz, _⟩ := hB.least _ _ hv
    rw [h1] at hz; cases hz
  · exact ⟨fun _ => ⟨v, hB.sound _ _ h1⟩, fun _ => rfl⟩
theorem RS5.iff_walk {l : List Edge} {a b : Int} {s : List Int} (h : RS5 l [a] s) : b ∈ s ↔ ∃ v, Walk l b a v := by
  constructor
  · refine h.sound (fun z => ∃ v, Walk l z a v) (fun y hy => ?_) (fun e he hv => ?_) b
    · simp at hy; subst hy; exact ⟨_, Walk.nil⟩
    · obtain ⟨v, hv⟩ := hv
      have w1 := hv.turn
      have w2 := Walk.cons (l := l.map turnE) (turnE e) v (List.mem_map.2 ⟨e, he, rfl⟩) w1
      have w3 := w2.turn
      rw [turn_turn] at w3
      exact ⟨_, w3⟩
  · rintro ⟨v, hv⟩
    have key : ∀ {u : Int} {v : CK}, Walk l b u v → u ∈ s → b ∈ s := by
      intro u v hw
      induction hw with
      | nil => exact id
      | cons e v he _ ih => exact fun hu => ih (h.closed e he hu)
    exact key hv (h.sub a (by simp))
theorem RS5.back_iff {l : List Edge} {a b : Int} {s : List Int} (h : RS5 (l.map turnE) [b] s) : a ∈ s ↔ ∃ v, Walk l b a v := by
  rw [h.iff_walk]
  constructor
  · rintro ⟨v, hv⟩
    have := hv.turn
    rw [turn_turn] at this
    exact ⟨v, this⟩
  · rintro ⟨v, hv⟩
    exact ⟨v, hv.turn⟩
end Go.Proofs.Ytmnkgcnhmkggkaa
