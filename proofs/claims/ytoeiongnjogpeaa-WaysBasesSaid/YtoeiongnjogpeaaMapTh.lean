/- Plain words on right maps: the edges of their runs and lifts. -/
import Derived.Test.YtoeiongnjogpeaaLookNode
import Derived.Test.YtoeiongnjogpeaaLookRun
import Derived.Test.YtoeiongnjogpeaaJoinW
import Derived.Test.YtoeiongnjogpeaaTurnP
import Derived.Test.YtoeiongnjogpeaaFewP
namespace Go.Proofs.Ytoeiongnjogpeaa
open Go.RowKit
/-- A way up from a to b: both nodes are there, and b is higher. -/
def Rises (m : MapM) (a b : Int) : Prop := ∃ x y, findNode m.nodes a = some x ∧ findNode m.nodes b = some y ∧ x.alt < y.alt
def LiftOk (m : MapM) (x : LiftM) : Prop := (1 ≤ x.id ∧ x.id ≤ 9999) ∧ (1 ≤ x.op ∧ x.op ≤ 8) ∧ (10 ≤ x.len ∧ x.len ≤ 6000) ∧ (500 ≤ x.speed ∧ x.speed ≤ 12000) ∧ (1 ≤ x.seats ∧ x.seats ≤ 16) ∧ (5 ≤ x.space ∧ x.space ≤ 1000) ∧ Rises m x.src x.dst
def RunOk (m : MapM) (x : RunM) : Prop := (1 ≤ x.id ∧ x.id ≤ 9999) ∧ (1 ≤ x.op ∧ x.op ≤ 8) ∧ (1 ≤ x.grade ∧ x.grade ≤ 4) ∧ (1 ≤ x.zone ∧ x.zone ≤ 32) ∧ (10 ≤ x.len ∧ x.len ≤ 20000) ∧ Rises m x.dst x.src
structure MapOk (m : MapM) : Prop where
  nn : m.nodes.length ≤ 64
  nl : m.lifts.length ≤ 32
  nr : m.runs.length ≤ 64
  nb : m.bases.length ≤ 64
  nodes : ∀ x ∈ m.nodes, (1 ≤ x.id ∧ x.id ≤ 9999) ∧ 0 ≤ x.alt ∧ x.alt ≤ 5000
  nodesUp : ∀ i j, i < j → j < m.nodes.length → (nodeAt m.nodes i).id < (nodeAt m.nodes j).id
  lifts : ∀ x ∈ m.lifts, LiftOk m x
  liftsUp : ∀ i j, i < j → j < m.lifts.length → (liftAt m.lifts i).id < (liftAt m.lifts j).id
  runs : ∀ x ∈ m.runs, RunOk m x
  runsUp : ∀ i j, i < j → j < m.runs.length → (runAt m.runs i).id < (runAt m.runs j).id
  bases0 : m.bases ≠ []
  bases : ∀ b ∈ m.bases, ∃ x, findNode m.nodes b = some x
  basesUp : m.bases.Pairwise (· < ·)
theorem up_of_adj {f : Nat → Int} {n : Nat} (h : ∀ i, i + 1 < n → f i < f (i + 1)) : ∀ i j, i < j → j < n → f i < f j := by
  intro i j hij hj
  induction j with
  | zero => omega
  | succ j ih =>
    rcases Nat.lt_or_ge i j with h1 | h1
    · have := ih h1 (by omega)
      have := h j hj
      omega
    · have : i = j := by omega
      subst this
      exact h i hj
theorem MapOk.node {m : MapM} (h : MapOk m) {b : Int} {x : NodeM} (hf : findNode m.nodes b = some x) : 1 ≤ b ∧ b ≤ 9999 := by
  obtain ⟨h1, h2⟩ := findNode_some hf
  have := (h.nodes x h1).1
  omega
theorem MapOk.base {m : MapM} (h : MapOk m) {b : Int} (hb : b ∈ m.bases) : 1 ≤ b ∧ b ≤ 9999 := by
  obtain ⟨x, hx⟩ := h.bases b hb
  exact h.node hx
theorem MapOk.run {m : MapM} (h : MapOk m) {x : RunM} (hx : x ∈ m.runs) : (1 ≤ x.src ∧ x.src ≤ 9999) ∧ (1 ≤ x.dst ∧ x.dst ≤ 9999) ∧ 10 ≤ x.len ∧ x.len ≤ 20000 := by
  obtain ⟨_, _, _, _, hl, a, b, ha, hb, _⟩ := h.runs x hx
  exact ⟨h.node hb, h.node ha, hl⟩
theorem MapOk.lift {m : MapM} (h : MapOk m) {x : LiftM} (hx : x ∈ m.lifts) : (1 ≤ x.src ∧ x.src ≤ 9999) ∧ (1 ≤ x.dst ∧ x.dst ≤ 9999) ∧ 10 ≤ x.len ∧ x.len ≤ 6000 := by
  obtain ⟨_, _, hl, _, _, _, a, b, ha, hb, _⟩ := h.lifts x hx
  exact ⟨h.node ha, h.node hb, hl⟩
theorem mem_downL {l : List RunM} {ids : List Int} {e : Edge} : e ∈ downL l ids ↔ ∃ x ∈ l, x.id ∈ ids ∧ e = runE x := by
  unfold downL
  rw [List.mem_map]
  constructor
  · rintro ⟨x, hx, rfl⟩
    rw [List.mem_filter] at hx
    exact ⟨x, hx.1, of_decide_eq_true hx.2, rfl⟩
  · rintro ⟨x, hx, hi, rfl⟩
    exact ⟨x, List.mem_filter.2 ⟨hx, decide_eq_true hi⟩, rfl⟩
theorem mem_upL {l : List LiftM} {ids : List Int} {e : Edge} : e ∈ upL l ids ↔ ∃ x ∈ l, x.id ∈ ids ∧ e = liftE x := by
  unfold upL
  rw [List.mem_map]
  constructor
  · rintro ⟨x, hx, rfl⟩
    rw [List.mem_filter] at hx
    exact ⟨x, hx.1, of_decide_eq_true hx.2, rfl⟩
  · rintro ⟨x, hx, hi, rfl⟩
    exact ⟨x, List.mem_filter.2 ⟨hx, decide_eq_true hi⟩, rfl⟩
theorem MapOk.runsUpP {m : MapM} (h : MapOk m) : m.runs.Pairwise (fun a b => a.id < b.id) := by
  rw [List.pairwise_iff_getElem]
  intro i j hi hj hij
  have := h.runsUp i j hij hj
  have e1 := runAt_eq hi
  have e2 := runAt_eq hj
  rw [List.getElem?_eq_getElem hi] at e1
  rw [List.getElem?_eq_getElem hj] at e2
  rw [Option.some.inj e1, Option.some.inj e2]
  exact this
theorem right_of {l : List Edge} (hlen : l.length ≤ 200) (hok : ∀ e ∈ l, EdgeOk e) (hid : l.Pairwise (fun a b => a.id ≠ b.id)) : Right l := by
  refine ⟨hlen, hok, fun i j hij hj => ?_⟩
  have := List.pairwise_iff_getElem.1 hid i j (by omega) hj hij
  have e1 := edAt_eq (l := l) (k := i) (by omega)
  have e2 := edAt_eq hj
  rw [List.getElem?_eq_getElem (by omega)] at e1
  rw [List.getElem?_eq_getElem hj] at e2
  rw [← Option.some.inj e1, ← Option.some.inj e2]
  exact this
theorem MapOk.down {m : MapM} (h : MapOk m) (ids : List Int) : Right (downL m.runs ids) := by
  refine right_of (by have := downL_len m.runs ids; have := h.nr; omega) (fun e he => ?_) ?_
  · obtain ⟨x, hx, _, rfl⟩ := mem_downL.1 he
    have := h.run hx
    unfold EdgeOk runE
    dsimp only; omega
  · unfold downL
    rw [List.pairwise_map]
    exact (h.runsUpP.filter _).imp (fun {a b} hab => by show a.id ≠ b.id; omega)
/-- The edges that Reachable looks at. -/
def waysE (m : MapM) (lifts runs : List Int) : List Edge := upL m.lifts lifts ++ downL m.runs runs
theorem waysE_len {m : MapM} (h : MapOk m) (lifts runs : List Int) : (waysE m lifts runs).length ≤ 96 := by
  have h1 := upL_len m.lifts lifts
  have h2 := downL_len m.runs runs
  have := h.nl
  have := h.nr
  unfold waysE
  rw [List.length_append]; omega
theorem waysE_ok {m : MapM} (h : MapOk m) (lifts runs : List Int) : ∀ e ∈ waysE m lifts runs, (1 ≤ e.src ∧ e.src ≤ 9999) ∧ (1 ≤ e.dst ∧ e.dst ≤ 9999) := by
  intro e he
  unfold waysE at he
  rw [List.mem_append] at he
  rcases he with he | he
  · obtain ⟨x, hx, _, rfl⟩ := mem_upL.1 he
    have := h.lift hx
    exact ⟨this.1, this.2.1⟩
  · obtain ⟨x, hx, _, rfl⟩ := mem_downL.1 he
    have := h.run hx
    exact ⟨this.1, this.2.1⟩
theorem numF_mem : ∀ (l : List Edge) (k : Nat) (e : Edge), e ∈ l → ∃ e' ∈ numF l k, e'.src = e.src ∧ e'.dst = e.dst
  | [], _, e, h => by cases h
  | x :: l, k, e, h => by
    rcases List.mem_cons.1 h with rfl | h
    · exact ⟨_, List.mem_cons_self, rfl, rfl⟩
    · obtain ⟨e', h1, h2⟩ := numF_mem l (k + 1) e h
      exact ⟨e', List.mem_cons_of_mem _ h1, h2⟩
theorem numF_mem' : ∀ (l : List Edge) (k : Nat) (e : Edge), e ∈ numF l k → ∃ e' ∈ l, e'.src = e.src ∧ e'.dst = e.dst
  | [], _, e, h => by cases h
  | x :: l, k, e, h => by
    rw [numF] at h
    rcases List.mem_cons.1 h with rfl | h
    · exact ⟨x, List.mem_cons_self, rfl, rfl⟩
    · obtain ⟨e', h1, h2⟩ := numF_mem' l (k + 1) e h
      exact ⟨e', List.mem_cons_of_mem _ h1, h2⟩
/-- What can be reached hangs on the ends of the edges alone. -/
theorem RS5.ends {l l' : List Edge} {f s : List Int} (h : RS5 l f s) (h1 : ∀ e ∈ l, ∃ e' ∈ l', e'.src = e.src ∧ e'.dst = e.dst) (h2 : ∀ e ∈ l', ∃ e' ∈ l, e'.src = e.src ∧ e'.dst = e.dst) : RS5 l' f s := by
  refine ⟨h.sorted, h.sub, fun e he hs => ?_, fun T ht hT => h.sound T ht (fun e he hs => ?_)⟩
  · obtain ⟨e', he', a, b⟩ := h2 e he
    rw [← b]
    exact h.closed e' he' (a ▸ hs)
  · obtain ⟨e', he', a, b⟩ := h1 e he
    rw [← b]
    exact hT e' he' (a ▸ hs)
theorem RS5.numF {l : List Edge} {f s : List Int} {k : Nat} (h : RS5 (numF l k) f s) : RS5 l f s := h.ends (numF_mem' l k) (numF_mem l k)
theorem bases_w64 {m : MapM} (h : MapOk m) : ∀ x ∈ m.bases, -9223372036854775808 ≤ x ∧ x ≤ 9223372036854775807 := fun x hx => by
  have := h.base hx; omega
end Go.Proofs.Ytoeiongnjogpeaa
