/- Proved here: a slice of the call's own, of edges, reads as edges. Condition: at most 1000 of them. Plain words on accepted edges. Proved here: plain words on placing the nodes of a graph in order. Proved here: plain words on least costs in a graph. Small words: the nodes of accepted edges; a map update whose count is a variable. Plain words: where a list's first element of a kind stands. -/
import Derived.Test.YtoeiongnjogpeaaOwnAll
import Derived.Test.YtoeiongnjogpeaaBase
namespace Go.Proofs.Ytoeiongnjogpeaa
open Go.RowKit
theorem edAt_succ (e : Edge) (l : List Edge) (i : Nat) : edAt (e :: l) (i + 1) = edAt l i := by simp [edAt]
def edgeCells (e : Edge) : List Value := [.int .i64 e.id, .int .i64 e.src, .int .i64 e.dst, .int .i64 e.cost]
theorem flat_at : ∀ (l : List Edge) (i j : Nat), i < l.length → j < 4 → (l.flatMap edgeCells)[i * 4 + j]? = (edgeCells (edAt l i))[j]?
  | [], i, _, h, _ => by simp at h
  | e :: l, 0, j, _, hj => by
    rw [List.flatMap_cons, List.getElem?_append_left (by simp [edgeCells]; omega)]
    simp [edAt]
  | e :: l, i + 1, j, h, hj => by
    rw [List.flatMap_cons, List.getElem?_append_right (by simp [edgeCells]; omega), edAt_succ, ← flat_at l i j (by simpa using h) hj]
    congr 1
    simp [edgeCells]; omega
theorem flat_len (l : List Edge) : (l.flatMap edgeCells).length = l.length * 4 := by
  induction l with
  | nil => rfl
  | cons e l ih => rw [List.flatMap_cons, List.length_append, ih]; simp [edgeCells]; omega
/-- A slice of the call's own, of edges, reads as edges. -/
theorem OwnS.rdE {W : World} {B : Nat} {A : Option Addr} {c : Nat} {l : List Edge} (h : OwnS 94 4 W B (.slice A l.length c) l.length (l.flatMap edgeCells)) (hm : l.length ≤ 1000) : RdE W A l := by
  refine ⟨by omega, fun i hi => ?_⟩
  have hs : i * 4 + 4 ≤ (l.flatMap edgeCells).length := by rw [flat_len]; omega
  obtain ⟨g, o, rfl, h0, _⟩ := h.cell (flat_at l i 0 hi (by omega))
  obtain ⟨g1, o1, e1, h1, _⟩ := h.cell (flat_at l i 1 hi (by omega))
  obtain ⟨g2, o2, e2, h2, _⟩ := h.cell (flat_at l i 2 hi (by omega))
  obtain ⟨g3, o3, e3, h3, _⟩ := h.cell (flat_at l i 3 hi (by omega))
  simp only [Option.some.injEq, Addr.mk.injEq, and_true] at e1 e2 e3
  obtain ⟨rfl, rfl⟩ := e1
  obtain ⟨rfl, rfl⟩ := e2
  obtain ⟨rfl, rfl⟩ := e3
  refine ⟨_, rfl, ?_, ?_, ?_, ?_⟩
  · rw [Addr.add_lit]; exact h0
  · rw [Addr.add_lit, Nat.add_assoc]; exact h1
  · rw [Addr.add_lit, Nat.add_assoc]; exact h2
  · rw [Addr.add_lit, Nat.add_assoc]; exact h3
end Go.Proofs.Ytoeiongnjogpeaa
namespace Go.Proofs.Ytoeiongnjogpeaa
open Go.RowKit
def EdgeOk (e : Edge) : Prop := 0 ≤ e.src ∧ e.src ≤ 9999 ∧ 0 ≤ e.dst ∧ e.dst ≤ 9999 ∧ 0 ≤ e.cost ∧ e.cost ≤ 1000000
instance (e : Edge) : Decidable (EdgeOk e) := by unfold EdgeOk; infer_instance
/-- The edges are accepted. -/
structure Right (l : List Edge) : Prop where
  len : l.length ≤ 200
  ok : ∀ e ∈ l, EdgeOk e
  ids : ∀ i j, i < j → j < l.length → (edAt l i).id ≠ (edAt l j).id
theorem edAt_mem {l : List Edge} {k : Nat} (h : k < l.length) : edAt l k ∈ l := List.mem_of_getElem? (edAt_eq h)
theorem mem_edAt {l : List Edge} {e : Edge} (h : e ∈ l) : ∃ k, k < l.length ∧ edAt l k = e := by
  obtain ⟨k, hk, he⟩ := List.mem_iff_getElem.1 h
  refine ⟨k, hk, ?_⟩
  have := edAt_eq hk
  rw [List.getElem?_eq_getElem hk, he] at this
  exact (Option.some.inj this).symm
def goE : List Int → List Edge → Int
  | _, [] => 0
  | S, e :: es => if EdgeOk e then (if e.id ∈ S then 7 else goE (S ++ [e.id]) es) else 2
def errL (l : List Edge) : Int := if l.length ≤ 200 then goE [] l else 4
def idsL (l : List Edge) : List Int := l.map (·.id)
theorem drop_ed {l : List Edge} {k : Nat} (h : k < l.length) : l.drop k = edAt l k :: l.drop (k + 1) := by
  rw [List.drop_eq_getElem_cons h]
  congr 1
  have := edAt_eq h
  rw [List.getElem?_eq_getElem h] at this
  exact Option.some.inj this
theorem ids_take {l : List Edge} {k : Nat} (h : k < l.length) : idsL (l.take (k + 1)) = idsL (l.take k) ++ [(edAt l k).id] := by
  unfold idsL; rw [take_ed h, List.map_append]; rfl
theorem goE_zero : ∀ (l : List Edge) (S : List Int), goE S l = 0 → (∀ e ∈ l, EdgeOk e) ∧ (∀ e ∈ l, e.id ∉ S) ∧ (idsL l).Nodup
  | [], _, _ => ⟨by simp, by simp, by simp [idsL]⟩
  | e :: es, S, h => by
    unfold goE at h
    split at h
    · rename_i h1
      split at h
      · simp at h
      · rename_i h2
        obtain ⟨a, b, c⟩ := goE_zero es _ h
        refine ⟨fun x hx => ?_, fun x hx => ?_, ?_⟩
        · rcases List.mem_cons.1 hx with rfl | hx
          · exact h1
          · exact a x hx
        · rcases List.mem_cons.1 hx with rfl | hx
          · exact h2
          · exact fun hs => b x hx (List.mem_append_left _ hs)
        · unfold idsL
          rw [List.map_cons, List.nodup_cons]
          refine ⟨fun hm => ?_, c⟩
          obtain ⟨y, hy, he⟩ := List.mem_map.1 hm
          exact b y hy (by rw [he]; simp)
    · simp at h
theorem errL_zero {l : List Edge} (h : errL l = 0) : Right l := by
  unfold errL at h
  split at h
  · rename_i hl
    obtain ⟨a, b, c⟩ := goE_zero l [] h
    refine ⟨hl, a, fun i j hij hj he => ?_⟩
    have := List.pairwise_iff_getElem.1 c i j (by simp [idsL]; omega) (by simp [idsL]; omega) hij
    apply this
    simp only [idsL, List.getElem_map]
    have e1 := edAt_eq (l := l) (k := i) (by omega)
    have e2 := edAt_eq (l := l) (k := j) hj
    rw [List.getElem?_eq_getElem (by omega)] at e1 e2
    rw [Option.some.inj e1, Option.some.inj e2]
    exact he
  · simp at h
theorem goE_ok : ∀ (l : List Edge) (S : List Int), (∀ e ∈ l, EdgeOk e) → (∀ e ∈ l, e.id ∉ S) → (idsL l).Nodup → goE S l = 0
  | [], _, _, _, _ => rfl
  | e :: es, S, h1, h2, h3 => by
    unfold goE
    rw [if_pos (h1 e (by simp)), if_neg (h2 e (by simp))]
    unfold idsL at h3
    rw [List.map_cons, List.nodup_cons] at h3
    refine goE_ok es _ (fun x hx => h1 x (by simp [hx])) (fun x hx hs => ?_) h3.2
    rcases List.mem_append.1 hs with hs | hs
    · exact h2 x (by simp [hx]) hs
    · simp at hs
      exact h3.1 (List.mem_map.2 ⟨x, hx, hs⟩)
theorem Right.nodup {l : List Edge} (h : Right l) : (idsL l).Nodup := by
  refine List.pairwise_iff_getElem.2 fun i j hi hj hij => ?_
  simp only [idsL, List.length_map] at hi hj
  have := h.ids i j hij hj
  simp only [idsL, List.getElem_map]
  have e1 := edAt_eq (l := l) (k := i) (by omega)
  have e2 := edAt_eq (l := l) (k := j) hj
  rw [List.getElem?_eq_getElem (by omega)] at e1 e2
  rw [Option.some.inj e1, Option.some.inj e2]
  exact this
theorem Right.err {l : List Edge} (h : Right l) : errL l = 0 := by
  unfold errL
  rw [if_pos h.len]
  exact goE_ok l [] h.ok (by simp) h.nodup
theorem bad_cases {e : Edge} (hok : ¬ EdgeOk e) : e.src < 0 ∨ (0 ≤ e.src ∧ 9999 < e.src) ∨ (0 ≤ e.src ∧ e.src ≤ 9999 ∧ e.dst < 0) ∨ (0 ≤ e.src ∧ e.src ≤ 9999 ∧ 0 ≤ e.dst ∧ 9999 < e.dst) ∨
    (0 ≤ e.src ∧ e.src ≤ 9999 ∧ 0 ≤ e.dst ∧ e.dst ≤ 9999 ∧ e.cost < 0) ∨ (0 ≤ e.src ∧ e.src ≤ 9999 ∧ 0 ≤ e.dst ∧ e.dst ≤ 9999 ∧ 0 ≤ e.cost ∧ 1000000 < e.cost) := by
  unfold EdgeOk at hok; omega
end Go.Proofs.Ytoeiongnjogpeaa
namespace Go.Proofs.Ytoeiongnjogpeaa
open Go.RowKit
def nodesL (l : List Edge) : List Int := l.flatMap (fun e => [e.src, e.dst])
theorem mem_nodes {l : List Edge} {n : Int} : n ∈ nodesL l ↔ ∃ e ∈ l, n = e.src ∨ n = e.dst := by
  unfold nodesL
  rw [List.mem_flatMap]
  simp
theorem src_mem {l : List Edge} {e : Edge} (h : e ∈ l) : e.src ∈ nodesL l := mem_nodes.2 ⟨e, h, .inl rfl⟩
theorem dst_mem {l : List Edge} {e : Edge} (h : e ∈ l) : e.dst ∈ nodesL l := mem_nodes.2 ⟨e, h, .inr rfl⟩
theorem nodes_append (l m : List Edge) : nodesL (l ++ m) = nodesL l ++ nodesL m := by unfold nodesL; rw [List.flatMap_append]
def cntL (l : List Edge) (out : List Int) (n : Int) : Nat := (l.filter (fun e => e.dst == n && !decide (e.src ∈ out))).length
theorem cnt_append (l m : List Edge) (out : List Int) (n : Int) : cntL (l ++ m) out n = cntL l out n + cntL m out n := by unfold cntL; rw [List.filter_append, List.length_append]
theorem cnt_le (l : List Edge) (out : List Int) (n : Int) : cntL l out n ≤ l.length := List.length_filter_le _ _
theorem cnt_zero {l : List Edge} {out : List Int} {n : Int} : cntL l out n = 0 ↔ ∀ e ∈ l, e.dst = n → e.src ∈ out := by
  unfold cntL
  rw [List.length_eq_zero_iff, List.filter_eq_nil_iff]
  constructor
  · intro h e he hd
    have := h e he
    simp [hd] at this
    exact this
  · intro h e he
    simp
    exact h e he
theorem cnt_one (e : Edge) (out : List Int) (n : Int) : cntL [e] out n = if e.dst = n ∧ e.src ∉ out then 1 else 0 := by
  unfold cntL
  by_cases h1 : e.dst = n <;> by_cases h2 : e.src ∈ out <;> simp [h1, h2]
theorem cnt_cons (e : Edge) (l : List Edge) (out : List Int) (n : Int) : cntL (e :: l) out n = cntL [e] out n + cntL l out n := by
  rw [← cnt_append]; rfl
def wM (l : List Edge) (out : List Int) : Int → Option Value := fun n => if n ∈ nodesL l ∧ n ∉ out then some (.int .i64 (cntL l out n)) else none
theorem wM_nil : ∀ n, wM [] [] n = none := fun n => by simp [wM, nodesL]
theorem wM_getD (l : List Edge) (n : Int) : (wM l [] n).getD (.int .i64 0) = .int .i64 (cntL l [] n) := by
  unfold wM
  by_cases h : n ∈ nodesL l
  · simp [h]
  · have : cntL l [] n = 0 := cnt_zero.2 fun e he hd => absurd (hd ▸ dst_mem he) h
    simp [h, this]
theorem wM_step (l : List Edge) (e : Edge) (n : Int) :
    IMap.upd (IMap.upd (wM l []) e.src (some (.int .i64 (cntL l [] e.src)))) e.dst (some (.int .i64 ((cntL l [] e.dst : Int) + 1))) n = wM (l ++ [e]) [] n := by
  unfold IMap.upd wM
  rw [nodes_append, cnt_append, cnt_one]
  have hn : nodesL [e] = [e.src, e.dst] := rfl
  rw [hn]
  by_cases h1 : n = e.dst
  · subst h1
    simp
  · have h1' : ¬ e.dst = n := fun h => h1 h.symm
    by_cases h2 : n = e.src
    · subst h2
      simp [h1, h1']
    · simp [h1, h2, h1']
def freeB (l : List Edge) (out : List Int) (n : Int) : Bool := !decide (n ∈ out) && l.all (fun e => !(e.dst == n) || decide (e.src ∈ out))
theorem freeB_iff {l : List Edge} {out : List Int} {n : Int} : freeB l out n = true ↔ n ∉ out ∧ ∀ e ∈ l, e.dst = n → e.src ∈ out := by
  unfold freeB
  rw [Bool.and_eq_true, List.all_eq_true]
  simp only [Bool.not_eq_true', decide_eq_false_iff_not, Bool.or_eq_true, beq_eq_false_iff_ne, decide_eq_true_eq]
  refine and_congr_right fun _ => ⟨fun h e he hd => (h e he).elim (fun h => absurd hd h) id, fun h e he => ?_⟩
  by_cases hd : e.dst = n
  · exact .inr (h e he hd)
  · exact .inl hd
def minL : List Int → Option Int
  | [] => none
  | x :: xs => match minL xs with
    | none => some x
    | some y => some (if x ≤ y then x else y)
theorem minL_some : ∀ {xs : List Int} {m : Int}, minL xs = some m → m ∈ xs ∧ ∀ y ∈ xs, m ≤ y
  | [], _, h => by cases h
  | x :: xs, m, h => by
    unfold minL at h
    split at h
    · rename_i hn
      cases h
      refine ⟨by simp, fun y hy => ?_⟩
      cases xs with
      | nil => simp at hy; omega
      | cons z zs => exfalso; unfold minL at hn; split at hn <;> cases hn
    · rename_i y hy
      obtain ⟨a, b⟩ := minL_some hy
      cases h
      split
      · exact ⟨by simp, fun z hz => by
          rcases List.mem_cons.1 hz with rfl | hz
          · omega
          · have := b z hz; omega⟩
      · exact ⟨by simp [a], fun z hz => by
          rcases List.mem_cons.1 hz with rfl | hz
          · omega
          · exact b z hz⟩
theorem minL_none {xs : List Int} (h : minL xs = none) : xs = [] := by
  cases xs with
  | nil => rfl
  | cons z zs => exfalso; unfold minL at h; split at h <;> cases h
def nextF (l : List Edge) (out : List Int) : Option Int := minL ((nodesL l).filter (freeB l out))
structure IsNext (l : List Edge) (out : List Int) (n : Int) : Prop where
  node : n ∈ nodesL l
  free : freeB l out n = true
  least : ∀ m ∈ nodesL l, freeB l out m = true → n ≤ m
theorem next_of {l : List Edge} {out : List Int} {n : Int} (h : IsNext l out n) : nextF l out = some n := by
  unfold nextF
  cases hm : minL ((nodesL l).filter (freeB l out)) with
  | none =>
    have := minL_none hm
    rw [List.filter_eq_nil_iff] at this
    exact absurd h.free (this n h.node)
  | some m =>
    obtain ⟨a, b⟩ := minL_some hm
    rw [List.mem_filter] at a
    have h1 := h.least m a.1 a.2
    have h2 := b n (List.mem_filter.2 ⟨h.node, h.free⟩)
    congr 1
    omega
theorem next_none {l : List Edge} {out : List Int} (h : ∀ m ∈ nodesL l, freeB l out m = false) : nextF l out = none := by
  unfold nextF
  rw [List.filter_eq_nil_iff.2 fun m hm => by rw [h m hm]; simp]
  rfl
def orderF (l : List Edge) : Nat → List Int → List Int × Int
  | 0, _ => ([], 16)
  | f + 1, out => match nextF l out with
    | some n => orderF l f (out ++ [n])
    | none => if (nodesL l).all (fun n => decide (n ∈ out)) then (out, 0) else ([], 16)
def orderL (l : List Edge) : List Int × Int := orderF l ((nodesL l).length + 1) []
structure OInv (l : List Edge) (out : List Int) : Prop where
  nodup : out.Nodup
  sub : ∀ x ∈ out, x ∈ nodesL l
  shut : ∀ e ∈ l, e.dst ∈ out → e.src ∈ out
  val : orderF l ((nodesL l).length + 1 - out.length) out = orderL l
theorem OInv.nil (l : List Edge) : OInv l [] := ⟨List.nodup_nil, by simp, by simp, rfl⟩
theorem OInv.len {l : List Edge} {out : List Int} (h : OInv l out) : out.length ≤ (nodesL l).length := IMap.nodup_le h.nodup h.sub
theorem OInv.unfold_ {l : List Edge} {out : List Int} (h : OInv l out) : orderL l = (match nextF l out with
    | some n => orderF l ((nodesL l).length - out.length) (out ++ [n])
    | none => if (nodesL l).all (fun n => decide (n ∈ out)) then (out, 0) else ([], 16)) := by
  have := h.len
  rw [← h.val, show (nodesL l).length + 1 - out.length = ((nodesL l).length - out.length) + 1 by omega]
  rfl
theorem OInv.snoc {l : List Edge} {out : List Int} {n : Int} (h : OInv l out) (hn : IsNext l out n) : OInv l (out ++ [n]) := by
  obtain ⟨f1, f2⟩ := freeB_iff.1 hn.free
  refine ⟨?_, fun x hx => ?_, fun e he hd => ?_, ?_⟩
  · rw [List.nodup_append]
    exact ⟨h.nodup, by simp, fun a ha x hx => by simp at hx; subst hx; exact fun e => f1 (e ▸ ha)⟩
  · rcases List.mem_append.1 hx with hx | hx
    · exact h.sub x hx
    · simp at hx; subst hx; exact hn.node
  · rcases List.mem_append.1 hd with hd | hd
    · exact List.mem_append_left _ (h.shut e he hd)
    · simp at hd
      exact List.mem_append_left _ (f2 e he hd)
  · rw [h.unfold_, next_of hn]
    simp
theorem OInv.lt {l : List Edge} {out : List Int} {n : Int} (h : OInv l out) (hn : IsNext l out n) : out.length < (nodesL l).length := by
  have := (h.snoc hn).len
  simp at this
  omega
theorem OInv.done {l : List Edge} {out : List Int} (h : OInv l out) (hd : ∀ n ∈ nodesL l, n ∈ out) : orderL l = (out, 0) := by
  rw [h.unfold_, next_none fun m hm => by
    rw [Bool.eq_false_iff]
    exact fun hf => (freeB_iff.1 hf).1 (hd m hm)]
  have : (nodesL l).all (fun n => decide (n ∈ out)) = true := by
    rw [List.all_eq_true]
    exact fun x hx => by simpa using hd x hx
  simp only [this]
  rfl
theorem OInv.stuck {l : List Edge} {out : List Int} (h : OInv l out) (n : Int) (hn : n ∈ nodesL l) (hn' : n ∉ out) (hf : ∀ m ∈ nodesL l, freeB l out m = false) : orderL l = ([], 16) := by
  rw [h.unfold_, next_none hf]
  have : ¬ ((nodesL l).all (fun n => decide (n ∈ out)) = true) := by
    rw [List.all_eq_true]
    exact fun h => hn' (by simpa using h n hn)
  simp only [this]
  rfl
/-- The map while the edges of p are taken off. -/
def dM (l : List Edge) (out : List Int) (p : Int) (k : Nat) : Int → Option Value := fun n =>
  if n ∈ nodesL l ∧ n ∉ out ++ [p] then some (.int .i64 ((cntL (l.take k) (out ++ [p]) n + cntL (l.drop k) out n : Nat) : Int)) else none
theorem dM_zero (l : List Edge) (out : List Int) (p n : Int) : IMap.upd (wM l out) p none n = dM l out p 0 n := by
  unfold IMap.upd wM dM
  have : cntL (l.take 0) (out ++ [p]) n = 0 := by simp [cntL]
  rw [this, Nat.zero_add, List.drop_zero]
  by_cases h : n = p
  · simp [h]
  · simp [h]
theorem dM_all (l : List Edge) (out : List Int) (p n : Int) : dM l out p l.length n = wM l (out ++ [p]) n := by
  unfold wM dM
  have : cntL (l.drop l.length) out n = 0 := by simp [cntL]
  rw [this, List.take_length, Nat.add_zero]
theorem dM_skip {l : List Edge} {out : List Int} {p : Int} {k : Nat} (h : k < l.length) (hp : (edAt l k).src ≠ p) (n : Int) : dM l out p (k + 1) n = dM l out p k n := by
  unfold dM
  rw [take_ed h, cnt_append, drop_ed h, cnt_cons (edAt l k) (l.drop (k + 1)), cnt_one, cnt_one]
  have : ((edAt l k).src ∉ out ++ [p]) ↔ (edAt l k).src ∉ out := by simp [hp]
  simp only [this]
  split
  · rw [Nat.add_assoc]
  · rfl
theorem dM_take {l : List Edge} {out : List Int} {p : Int} {k : Nat} (h : k < l.length) (ho : OInv l out) (hn : IsNext l out p) (hp : (edAt l k).src = p) :
    ∃ v : Nat, v ≤ l.length ∧ dM l out p k (edAt l k).dst = some (.int .i64 ((v : Int) + 1)) ∧ ∀ n, IMap.upd (dM l out p k) (edAt l k).dst (some (.int .i64 v)) n = dM l out p (k + 1) n := by
  obtain ⟨f1, f2⟩ := freeB_iff.1 hn.free
  have hd : (edAt l k).dst ∉ out ++ [p] := by
    intro hm
    rcases List.mem_append.1 hm with hm | hm
    · exact f1 (hp ▸ ho.shut _ (edAt_mem h) hm)
    · simp at hm
      exact f1 (hp ▸ f2 _ (edAt_mem h) hm)
  have hm := dst_mem (edAt_mem h)
  have hin : (edAt l k).src ∈ out ++ [p] := by simp [hp]
  have hnin : (edAt l k).src ∉ out := hp ▸ f1
  refine ⟨cntL (l.take k) (out ++ [p]) (edAt l k).dst + cntL (l.drop (k + 1)) out (edAt l k).dst, ?_, ?_, fun n => ?_⟩
  · have h1 := cnt_le (l.take k) (out ++ [p]) (edAt l k).dst
    have h2 := cnt_le (l.drop (k + 1)) out (edAt l k).dst
    rw [List.length_take] at h1
    rw [List.length_drop] at h2
    omega
  · unfold dM
    rw [if_pos ⟨hm, hd⟩, drop_ed h, cnt_cons (edAt l k) (l.drop (k + 1)), cnt_one, if_pos ⟨rfl, hnin⟩]
    congr 2
    omega
  · unfold dM IMap.upd
    dsimp only
    rw [take_ed h, cnt_append, cnt_one, drop_ed h, cnt_cons (edAt l k) (l.drop (k + 1)), cnt_one]
    by_cases hx : n = (edAt l k).dst
    · subst hx
      simp only [hm, hd, hin, not_true, and_false, if_false, Nat.add_zero, not_false_eq_true, and_self, if_true]
    · have hx' : ¬ (edAt l k).dst = n := fun e => hx e.symm
      simp only [hx, hx', false_and, if_false, Nat.add_zero, Nat.zero_add]
/-- What the least free node is after the keys D. -/
def LeastI (m : Int → Option Value) (D : List Int) (x : Int) : Prop :=
  (x = -1 ∧ ∀ k ∈ D, m k ≠ some (.int .i64 0)) ∨ (x ∈ D ∧ 0 ≤ x ∧ m x = some (.int .i64 0) ∧ ∀ k ∈ D, m k = some (.int .i64 0) → x ≤ k)
theorem LeastI.nil (m : Int → Option Value) : LeastI m [] (-1) := .inl ⟨rfl, by simp⟩
theorem LeastI.skip {m : Int → Option Value} {D : List Int} {x k : Int} (h : LeastI m D x) (hk : m k ≠ some (.int .i64 0)) : LeastI m (D ++ [k]) x := by
  rcases h with ⟨a, b⟩ | ⟨a, a', b, c⟩
  · exact .inl ⟨a, fun y hy => by
      rcases List.mem_append.1 hy with hy | hy
      · exact b y hy
      · simp at hy; subst hy; exact hk⟩
  · exact .inr ⟨by simp [a], a', b, fun y hy h => by
      rcases List.mem_append.1 hy with hy | hy
      · exact c y hy h
      · simp at hy; subst hy; exact absurd h hk⟩
theorem LeastI.take {m : Int → Option Value} {D : List Int} {x k : Int} (h : LeastI m D x) (hk : m k = some (.int .i64 0)) (h0 : 0 ≤ k) (hlt : x < 0 ∨ k < x) : LeastI m (D ++ [k]) k := by
  refine .inr ⟨by simp, h0, hk, fun y hy hm => ?_⟩
  rcases List.mem_append.1 hy with hy | hy
  · rcases h with ⟨a, b⟩ | ⟨a, a', b, c⟩
    · exact absurd hm (b y hy)
    · have := c y hy hm; omega
  · simp at hy; omega
theorem LeastI.keep {m : Int → Option Value} {D : List Int} {x k : Int} (h : LeastI m D x) (h0 : ¬ x < 0) (hlt : ¬ k < x) : LeastI m (D ++ [k]) x := by
  rcases h with ⟨a, b⟩ | ⟨a, a', b, c⟩
  · omega
  · exact .inr ⟨by simp [a], a', b, fun y hy h => by
      rcases List.mem_append.1 hy with hy | hy
      · exact c y hy h
      · simp at hy; omega⟩
theorem wM_free {l : List Edge} {out : List Int} {n : Int} : wM l out n = some (.int .i64 0) ↔ n ∈ nodesL l ∧ freeB l out n = true := by
  unfold wM
  rw [freeB_iff, ← cnt_zero]
  split
  · rename_i h
    simp [h]
  · rename_i h
    simp
    intro h1 h2
    exact absurd ⟨h1, h2⟩ h
theorem wM_some {l : List Edge} {out : List Int} {n : Int} (h : (wM l out n).isSome = true) : n ∈ nodesL l ∧ n ∉ out := by
  unfold wM at h
  split at h
  · assumption
  · cases h
/-- All keys seen: the least free node, or none. -/
theorem LeastI.end_ {l : List Edge} {out D : List Int} {x : Int} (h : LeastI (wM l out) D x) (hall : ∀ k, (wM l out k).isSome = true → k ∈ D) :
    (x = -1 ∧ ∀ m ∈ nodesL l, freeB l out m = false) ∨ (0 ≤ x ∧ IsNext l out x) := by
  rcases h with ⟨a, b⟩ | ⟨a, a', b, c⟩
  · refine .inl ⟨a, fun m hm => ?_⟩
    rw [Bool.eq_false_iff]
    intro hf
    have := wM_free.2 ⟨hm, hf⟩
    exact b m (hall m (by rw [this]; rfl)) this
  · obtain ⟨n1, n2⟩ := wM_free.1 b
    exact .inr ⟨a', n1, n2, fun m hm hf => by
      have := wM_free.2 ⟨hm, hf⟩
      exact c m (hall m (by rw [this]; rfl)) this⟩
end Go.Proofs.Ytoeiongnjogpeaa
namespace Go.Proofs.Ytoeiongnjogpeaa
open Go.RowKit
abbrev CK := Nat × Nat
/-- Earlier in the order by cost, then by edges. -/
def ltC (a b : CK) : Prop := a.1 < b.1 ∨ a.1 = b.1 ∧ a.2 < b.2
def leC (a b : CK) : Prop := ¬ ltC b a
instance (a b : CK) : Decidable (ltC a b) := by unfold ltC; infer_instance
instance (a b : CK) : Decidable (leC a b) := by unfold leC; infer_instance
theorem leC_iff {a b : CK} : leC a b ↔ a.1 < b.1 ∨ a.1 = b.1 ∧ a.2 ≤ b.2 := by unfold leC ltC; omega
theorem leC_refl (a : CK) : leC a a := by rw [leC_iff]; omega
theorem leC_trans {a b c : CK} (h : leC a b) (k : leC b c) : leC a c := by rw [leC_iff] at *; omega
theorem leC_antisymm {a b : CK} (h : leC a b) (k : leC b a) : a = b := by
  rw [leC_iff] at *
  obtain ⟨a1, a2⟩ := a
  obtain ⟨b1, b2⟩ := b
  simp only [Prod.mk.injEq] at *
  omega
def addC (e : Edge) (v : CK) : CK := (v.1 + e.cost.toNat, v.2 + 1)
theorem addC_le {e : Edge} {a b : CK} (h : leC a b) : leC (addC e a) (addC e b) := by
  rw [leC_iff] at *; simp only [addC]; omega
theorem addC_lt (e : Edge) (v : CK) : ltC v (addC e v) := by unfold ltC addC; dsimp only; omega
theorem addC_inj {e : Edge} {a b : CK} (h : addC e a = addC e b) : a = b := by
  obtain ⟨a1, a2⟩ := a
  obtain ⟨b1, b2⟩ := b
  simp only [addC, Prod.mk.injEq] at *
  omega
/-- A way of that cost from u to t. -/
inductive Walk (l : List Edge) (t : Int) : Int → CK → Prop
  | nil : Walk l t t (0, 0)
  | cons (e : Edge) (v : CK) : e ∈ l → Walk l t e.dst v → Walk l t e.src (addC e v)
/-- Least costs. -/
structure Best (l : List Edge) (t : Int) (b : Int → Option CK) : Prop where
  sound : ∀ u v, b u = some v → Walk l t u v
  least : ∀ u v, Walk l t u v → ∃ x, b u = some x ∧ leC x v
theorem Best.uniq {l : List Edge} {t : Int} {b b' : Int → Option CK} (h : Best l t b) (k : Best l t b') : ∀ u, b u = b' u := by
  intro u
  cases hb : b u with
  | none =>
    cases hb' : b' u with
    | none => rfl
    | some v =>
      obtain ⟨x, hx, _⟩ := h.least u v (k.sound u v hb')
      rw [hb] at hx; cases hx
  | some v =>
    obtain ⟨x, hx, h1⟩ := k.least u v (h.sound u v hb)
    obtain ⟨y, hy, h2⟩ := h.least u x (k.sound u x hx)
    rw [hb] at hy
    cases hy
    rw [hx, leC_antisymm h1 h2]
def Relaxed (b : Int → Option CK) (e : Edge) : Prop := ∀ v, b e.dst = some v → ∃ x, b e.src = some x ∧ leC x (addC e v)
theorem best_of {l : List Edge} {t : Int} {b : Int → Option CK} (h0 : ∃ x, b t = some x ∧ leC x (0, 0)) (hs : ∀ u v, b u = some v → Walk l t u v) (hr : ∀ e ∈ l, Relaxed b e) : Best l t b := by
  refine ⟨hs, fun u v hw => ?_⟩
  induction hw with
  | nil => exact h0
  | cons e v he _ ih =>
    obtain ⟨x, hx, hle⟩ := ih
    obtain ⟨y, hy, h2⟩ := hr e he x hx
    exact ⟨y, hy, leC_trans h2 (addC_le hle)⟩
/-- A path by edges. -/
def isPath (t : Int) : Int → List Edge → Prop
  | u, [] => u = t
  | u, e :: p => e.src = u ∧ isPath t e.dst p
def pval : List Edge → CK
  | [] => (0, 0)
  | e :: p => addC e (pval p)
theorem isPath.walk {l : List Edge} {t : Int} : ∀ {p : List Edge} {u : Int}, isPath t u p → (∀ e ∈ p, e ∈ l) → Walk l t u (pval p)
  | [], u, h, _ => by
    have : u = t := h
    subst this
    exact Walk.nil
  | e :: p, u, h, hl => by
    obtain ⟨rfl, h⟩ := h
    exact Walk.cons e _ (hl e (by simp)) (isPath.walk h fun x hx => hl x (by simp [hx]))
/-- What is laid down of a way: no node twice, and each node on it has a cost that is no more. -/
structure Wit (l : List Edge) (t : Int) (b : Int → Option CK) (u : Int) (v : CK) (p : List Edge) : Prop where
  path : isPath t u p
  sub : ∀ e ∈ p, e ∈ l
  val : pval p = v
  nodup : (p.map (·.src)).Nodup
  low : ∀ p1 e q, p = p1 ++ e :: q → ∃ x, b e.src = some x ∧ leC x (pval (e :: q))
structure Lab (l : List Edge) (t : Int) (b : Int → Option CK) : Prop where
  zero : b t = some (0, 0)
  wit : ∀ u v, b u = some v → ∃ p, Wit l t b u v p
def updC (b : Int → Option CK) (u : Int) (v : CK) : Int → Option CK := fun x => if x = u then some v else b x
theorem Lab.start (l : List Edge) (t : Int) : Lab l t (fun x => if x = t then some (0, 0) else none) := by
  refine ⟨by simp, fun u v h => ?_⟩
  by_cases hu : u = t
  · simp [hu] at h
    refine ⟨[], hu, by simp, h, by simp, fun p1 e q hp => ?_⟩
    simp at hp
  · simp [hu] at h
theorem pval_suffix : ∀ (p1 q : List Edge), leC (pval q) (pval (p1 ++ q))
  | [], q => leC_refl _
  | e :: p1, q => by
    have := pval_suffix p1 q
    refine leC_trans this ?_
    show leC (pval (p1 ++ q)) (addC e (pval (p1 ++ q)))
    rw [leC_iff]; unfold addC; dsimp only; omega
/-- A way that is better is laid down. -/
theorem Lab.step {l : List Edge} {t : Int} {b : Int → Option CK} (h : Lab l t b) {e : Edge} {v : CK} (he : e ∈ l) (hv : b e.dst = some v) (hlt : ∀ x, b e.src = some x → ltC (addC e v) x) : Lab l t (updC b e.src (addC e v)) := by
  have hmono : ∀ u x, b u = some x → ∃ y, updC b e.src (addC e v) u = some y ∧ leC y x := by
    intro u x hx
    unfold updC
    by_cases hu : u = e.src
    · subst hu
      exact ⟨_, if_pos rfl, by rw [leC_iff]; have := hlt x hx; unfold ltC at this; omega⟩
    · exact ⟨x, by rw [if_neg hu]; exact hx, leC_refl x⟩
  have hzero : e.src ≠ t := fun hs => by
    have := hlt (0, 0) (by rw [hs]; exact h.zero)
    unfold ltC addC at this; dsimp only at this; omega
  refine ⟨by unfold updC; rw [if_neg (fun h' => hzero h'.symm)]; exact h.zero, fun u x hx => ?_⟩
  by_cases hu : u = e.src
  · subst hu
    simp only [updC, if_true, Option.some.injEq] at hx
    subst hx
    obtain ⟨p, hp⟩ := h.wit _ _ hv
    refine ⟨e :: p, ⟨rfl, hp.path⟩, fun x hx => ?_, by show addC e (pval p) = _; rw [hp.val], ?_, fun p1 e' q hq => ?_⟩
    · rcases List.mem_cons.1 hx with rfl | hx
      · exact he
      · exact hp.sub x hx
    · rw [List.map_cons, List.nodup_cons]
      refine ⟨fun hm => ?_, hp.nodup⟩
      obtain ⟨e', he', hs⟩ := List.mem_map.1 hm
      obtain ⟨p1, q, hpq⟩ := List.append_of_mem he'
      obtain ⟨x, hx, hle⟩ := hp.low p1 e' q hpq
      rw [hs] at hx
      have h1 := hlt x hx
      have h2 := pval_suffix p1 (e' :: q)
      rw [← hpq, hp.val] at h2
      have h3 := addC_lt e v
      have h4 := leC_trans hle h2
      rw [leC_iff] at h4
      unfold ltC at h1 h3
      omega
    · cases p1 with
      | nil =>
        simp only [List.nil_append, List.cons.injEq] at hq
        obtain ⟨rfl, rfl⟩ := hq
        exact ⟨_, if_pos rfl, by show leC _ (addC e (pval p)); rw [hp.val]; exact leC_refl _⟩
      | cons a p1 =>
        simp only [List.cons_append, List.cons.injEq] at hq
        obtain ⟨rfl, hq⟩ := hq
        obtain ⟨x, hx, hle⟩ := hp.low p1 e' q hq
        obtain ⟨y, hy, hle2⟩ := hmono _ _ hx
        exact ⟨y, hy, leC_trans hle2 hle⟩
  · have hbx : b u = some x := by simpa [updC, hu] using hx
    obtain ⟨p, hp⟩ := h.wit u x hbx
    refine ⟨p, hp.path, hp.sub, hp.val, hp.nodup, fun p1 e' q hq => ?_⟩
    obtain ⟨y, hy, hle⟩ := hp.low p1 e' q hq
    obtain ⟨z, hz, hle2⟩ := hmono _ _ hy
    exact ⟨z, hz, leC_trans hle2 hle⟩
theorem pval_le {l : List Edge} (hr : Right l) : ∀ (p : List Edge), (∀ e ∈ p, e ∈ l) → (pval p).1 ≤ 1000000 * p.length ∧ (pval p).2 = p.length
  | [], _ => ⟨by simp [pval], rfl⟩
  | e :: p, h => by
    obtain ⟨a, b⟩ := pval_le hr p fun x hx => h x (by simp [hx])
    have := hr.ok e (h e (by simp))
    unfold EdgeOk at this
    simp only [pval, addC, List.length_cons]
    omega
theorem nodup_of_src {p : List Edge} (h : (p.map (·.src)).Nodup) : p.Nodup := by
  induction p with
  | nil => exact List.nodup_nil
  | cons e p ih =>
    rw [List.map_cons, List.nodup_cons] at h
    rw [List.nodup_cons]
    exact ⟨fun hm => h.1 (List.mem_map.2 ⟨e, hm, rfl⟩), ih h.2⟩
theorem Wit.le {l : List Edge} {t : Int} {b : Int → Option CK} {u : Int} {v : CK} {p : List Edge} (hr : Right l) (h : Wit l t b u v p) : v.1 ≤ 200000000 ∧ v.2 ≤ 200 := by
  have h1 := pval_le hr p h.sub
  have h2 := IMap.nodup_le (nodup_of_src h.nodup) h.sub
  have h3 := hr.len
  rw [← h.val]
  omega
theorem Lab.le {l : List Edge} {t : Int} {b : Int → Option CK} (h : Lab l t b) (hr : Right l) {u : Int} {v : CK} (hv : b u = some v) : v.1 ≤ 200000000 ∧ v.2 ≤ 200 := by
  obtain ⟨p, hp⟩ := h.wit u v hv
  exact hp.le hr
theorem Lab.best {l : List Edge} {t : Int} {b : Int → Option CK} (h : Lab l t b) (hr : ∀ e ∈ l, Relaxed b e) : Best l t b :=
  best_of ⟨_, h.zero, leC_refl _⟩ (fun u v hv => by
    obtain ⟨p, hp⟩ := h.wit u v hv
    rw [← hp.val]
    exact hp.path.walk hp.sub) hr
/-- How much may still fall. -/
def rankC : Option CK → Nat
  | none => 201 * 200000001
  | some v => v.1 * 201 + v.2
def sumC (b : Int → Option CK) : List Int → Nat
  | [] => 0
  | x :: xs => rankC (b x) + sumC b xs
def phiC (l : List Edge) (b : Int → Option CK) : Nat := sumC b (nodesL l)
theorem sumC_le {b b' : Int → Option CK} (h : ∀ x, rankC (b' x) ≤ rankC (b x)) : ∀ (xs : List Int), sumC b' xs ≤ sumC b xs
  | [] => Nat.le_refl _
  | x :: xs => by
    have := sumC_le h xs
    have := h x
    unfold sumC; omega
theorem sumC_lt {b b' : Int → Option CK} (h : ∀ x, rankC (b' x) ≤ rankC (b x)) {u : Int} (hu : rankC (b' u) < rankC (b u)) : ∀ (xs : List Int), u ∈ xs → sumC b' xs < sumC b xs
  | [], hm => by simp at hm
  | x :: xs, hm => by
    have h1 := sumC_le h xs
    have h2 := h x
    unfold sumC
    rcases List.mem_cons.1 hm with rfl | hm
    · omega
    · have := sumC_lt h hu xs hm
      omega
theorem phi_step {l : List Edge} {t : Int} {b : Int → Option CK} (hr : Right l) (h : Lab l t b) {e : Edge} {v : CK} (he : e ∈ l) (hv : b e.dst = some v) (hlt : ∀ x, b e.src = some x → ltC (addC e v) x) :
    phiC l (updC b e.src (addC e v)) < phiC l b := by
  have hl := h.step he hv hlt
  have hle := hl.le hr (u := e.src) (v := addC e v) (by simp [updC])
  have key : rankC (updC b e.src (addC e v) e.src) < rankC (b e.src) := by
    have e1 : updC b e.src (addC e v) e.src = some (addC e v) := by simp [updC]
    rw [e1]
    cases hb : b e.src with
    | none =>
      show (addC e v).1 * 201 + (addC e v).2 < 201 * 200000001
      omega
    | some x =>
      have := hlt x hb
      unfold ltC at this
      show (addC e v).1 * 201 + (addC e v).2 < x.1 * 201 + x.2
      omega
  refine sumC_lt (fun x => ?_) key _ (src_mem he)
  by_cases hx : x = e.src
  · rw [hx]; omega
  · simp [updC, hx]
/-- The first edge that begins a best path. -/
def goodB (b : Int → Option CK) (u : Int) (e : Edge) : Bool := decide (e.src = u) && (match b e.dst with
  | none => false
  | some v => decide (b u = some (addC e v)))
inductive PathR (l : List Edge) (b : Int → Option CK) (t : Int) : Int → List Int → Prop
  | nil : PathR l b t t []
  | cons (u : Int) (e : Edge) (ids : List Int) : u ≠ t → l.find? (goodB b u) = some e → PathR l b t e.dst ids → PathR l b t u (e.id :: ids)
theorem PathR.uniq {l : List Edge} {b : Int → Option CK} {t u : Int} {x : List Int} (h : PathR l b t u x) : ∀ {y : List Int}, PathR l b t u y → x = y := by
  induction h with
  | nil =>
    intro y hy
    cases hy with
    | nil => rfl
    | cons _ e ids hne => exact absurd rfl hne
  | cons u e ids hne hf _ ih =>
    intro y hy
    cases hy with
    | nil => exact absurd rfl hne
    | cons _ e' ids' hne' hf' hp' =>
      rw [hf] at hf'
      cases hf'
      rw [ih hp']
theorem Walk.zero {l : List Edge} {t u : Int} {v : CK} (h : Walk l t u v) (h0 : v.2 = 0) : u = t := by
  cases h with
  | nil => rfl
  | cons e v _ _ => simp [addC] at h0
theorem Best.zero {l : List Edge} {t : Int} {b : Int → Option CK} (h : Best l t b) : b t = some (0, 0) := by
  obtain ⟨x, hx, hle⟩ := h.least t (0, 0) Walk.nil
  rw [leC_iff] at hle
  rw [hx]
  congr 1
  obtain ⟨x1, x2⟩ := x
  simp only [Prod.mk.injEq] at *
  omega
/-- Where a best path goes on. -/
theorem Best.next {l : List Edge} {t u : Int} {b : Int → Option CK} (h : Best l t b) {v : CK} (hv : b u = some v) (hne : u ≠ t) :
    ∃ e x, l.find? (goodB b u) = some e ∧ e ∈ l ∧ e.src = u ∧ b e.dst = some x ∧ v = addC e x := by
  have hex : ∃ e ∈ l, goodB b u e = true := by
    have hw := h.sound u v hv
    cases hw with
    | nil => exact absurd rfl hne
    | cons e x he hw =>
      obtain ⟨y, hy, hle⟩ := h.least _ _ hw
      obtain ⟨z, hz, hle2⟩ := h.least _ _ (Walk.cons e y he (h.sound _ _ hy))
      rw [hv] at hz
      cases hz
      have := leC_antisymm hle2 (addC_le hle)
      refine ⟨e, he, ?_⟩
      unfold goodB
      rw [hy]
      simp [hv, this]
  cases hf : l.find? (goodB b u) with
  | none =>
    obtain ⟨e, he, hg⟩ := hex
    rw [List.find?_eq_none] at hf
    exact absurd hg (hf e he)
  | some e =>
    have hg := List.find?_some hf
    have hm := List.mem_of_find?_eq_some hf
    unfold goodB at hg
    rw [Bool.and_eq_true] at hg
    obtain ⟨h1, h2⟩ := hg
    cases hd : b e.dst with
    | none => rw [hd] at h2; simp at h2
    | some x =>
      rw [hd] at h2
      simp only [decide_eq_true_eq] at h1 h2
      rw [hv] at h2
      exact ⟨e, x, rfl, hm, h1, hd, Option.some.inj h2⟩
/-- What Shortest returns. -/
def ShortR (l : List Edge) (from_ to_ : Int) (ids : List Int) (n : Int) (ok : Bool) : Prop :=
  ∃ b, Best l to_ b ∧ ((b from_ = none ∧ ids = [] ∧ n = 0 ∧ ok = false) ∨ ∃ v : CK, b from_ = some v ∧ PathR l b to_ from_ ids ∧ n = v.1 ∧ ok = true)
theorem ShortR.uniq {l : List Edge} {f t : Int} {x y : List Int} {n m : Int} {o p : Bool} (h : ShortR l f t x n o) (k : ShortR l f t y m p) : x = y ∧ n = m ∧ o = p := by
  obtain ⟨b, hb, h⟩ := h
  obtain ⟨b', hb', k⟩ := k
  obtain rfl : b = b' := funext (hb.uniq hb')
  rcases h with ⟨h1, rfl, rfl, rfl⟩ | ⟨v, h1, h2, rfl, rfl⟩ <;> rcases k with ⟨k1, rfl, rfl, rfl⟩ | ⟨v', k1, k2, rfl, rfl⟩
  · exact ⟨rfl, rfl, rfl⟩
  · rw [h1] at k1; cases k1
  · rw [h1] at k1; cases k1
  · rw [h1] at k1; cases k1
    exact ⟨h2.uniq k2, rfl, rfl⟩
end Go.Proofs.Ytoeiongnjogpeaa
namespace Go.Proofs.Ytoeiongnjogpeaa
open Go.RowKit
theorem Right.nodes {l : List Edge} (h : Right l) : ∀ n ∈ nodesL l, 0 ≤ n ∧ n ≤ 9999 := fun n hn => by
  obtain ⟨e, he, hx⟩ := mem_nodes.1 hn
  have := h.ok e he
  unfold EdgeOk at this
  rcases hx with rfl | rfl <;> omega
theorem nodes_len (l : List Edge) : (nodesL l).length = 2 * l.length := by
  induction l with
  | nil => rfl
  | cons e l ih => unfold nodesL at ih ⊢; rw [List.flatMap_cons, List.length_append, ih]; simp; omega
theorem wp_update' {P : Program} (w : World) {ops : Array Oper} {rest : List Oper} {o : Oper} {a : Act} {Q : Exit → Act → World → Prop}
    (hg : o.guard = none) (mo x vo : Operand) (t : TypeId) (hop : o.op = Op.mapUpdate t mo x vo) (kt e : TypeId) (ht : P.underlying t = some (.map kt e)) (hk : P.underlying kt = some (.int .i64))
    (b n : Nat) (m : Int → Option Value) (hm : a.eval mo = .map (some b)) (h : IMap.IM w b n m) (k : Int) (v : Value) (hx : a.eval x = .int .i64 k) (hv : a.eval vo = v)
    (hK : ∀ w' n', IMap.IM w' b n' (IMap.upd m k (some v)) → w.grownBy w' (some b) → wpList P ops Q rest (a.put o.dst undef) w') :
    wpList P ops Q (o :: rest) a w :=
  IMap.wp_update w hg mo x vo t hop kt e ht hk b n m hm h k v hx hv (fun w' h1 h2 => hK w' _ h1 h2)
end Go.Proofs.Ytoeiongnjogpeaa
namespace Go.Proofs.Ytoeiongnjogpeaa
open Go.RowKit
theorem find_idx {p : Edge → Bool} : ∀ {l : List Edge} {e : Edge}, l.find? p = some e → ∃ k, k < l.length ∧ edAt l k = e ∧ p e = true ∧ ∀ i, i < k → p (edAt l i) = false
  | [], e, h => by cases h
  | x :: l, e, h => by
    rw [List.find?_cons] at h
    split at h
    · rename_i hp
      cases h
      exact ⟨0, by simp, by simp [edAt], hp, fun i hi => by omega⟩
    · rename_i hp
      obtain ⟨k, h1, h2, h3, h4⟩ := find_idx h
      refine ⟨k + 1, by simp; omega, by rw [edAt_succ]; exact h2, h3, fun i hi => ?_⟩
      cases i with
      | zero => simpa [edAt] using hp
      | succ i => rw [edAt_succ]; exact h4 i (by omega)
end Go.Proofs.Ytoeiongnjogpeaa
