/- Proved here: plain words on placing the nodes of a graph in order. -/
import Derived.Test.YtmnkgcnhmkggkaaGRight
namespace Go.Proofs.Ytmnkgcnhmkggkaa
open Go.RowKit
def nodesL (l : List Edge) : List Int := l.flatMap (fun e => [e.src, e.dst])
theorem mem_nodes {l : List Edge} {n : Int} : n ∈ nodesL l ↔ ∃ e ∈ l, n = e.src ∨ n = e.dst := by
  unfold nodesL
  rw [List.mem_flatMap]
  simp
theorem src_mem {l : List Edge} {e : Edge} (h : e ∈ l) : e.src ∈ nodesL l := mem_nodes.2 ⟨e, h, .inl rfl⟩
theorem dst_mem {l : List Edge} {e : Edge} (h : e ∈ l) : e.dst ∈ nodesL l := mem_nodes.2 ⟨e, h, .inr rfl⟩
theorem nodes_append (l m : List Edge) : nodesL (l ++ m) = nodesL l ++ nodesL m := by unfold nodesL; rw [List.flatMap_append]
def cntL (l : List Edge) (out : List Int) (n : Int) : Nat := (l.filter (fun e => e.dst == n && !decide (e.src ∈ out))).length
theorem cnt_append (l m : List Edge) (out : List Int) (n : Int) : cntL (l ++ m) out n = cntL l out n + cntL m out n := by unfold cntL; rw [List.filter_append, List.length_append]
theorem cnt_le (l : List Edge) (out : List Int) (n : Int) : cntL l out n ≤ l.length := List.length_filter_le _ _
theorem cnt_zero {l : List Edge} {out : List Int} {n : Int} : cntL l out n = 0 ↔ ∀ e ∈ l, e.dst = n → e.src ∈ out := by
  unfold cntL
  rw [List.length_eq_zero_iff, List.filter_eq_nil_iff]
  constructor
  · intro h e he hd
    have := h e he
    simp [hd] at this
    exact this
  · intro h e he
    simp
    exact h e he
theorem cnt_one (e : Edge) (out : List Int) (n : Int) : cntL [e] out n = if e.dst = n ∧ e.src ∉ out then 1 else 0 := by
  unfold cntL
  by_cases h1 : e.dst = n <;> by_cases h2 : e.src ∈ out <;> simp [h1, h2]
theorem cnt_cons (e : Edge) (l : List Edge) (out : List Int) (n : Int) : cntL (e :: l) out n = cntL [e] out n + cntL l out n := by
  rw [← cnt_append]; rfl
def wM (l : List Edge) (out : List Int) : Int → Option Value := fun n => if n ∈ nodesL l ∧ n ∉ out then some (.int .i64 (cntL l out n)) else none
theorem wM_nil : ∀ n, wM [] [] n = none := fun n => by simp [wM, nodesL]
theorem wM_getD (l : List Edge) (n : Int) : (wM l [] n).getD (.int .i64 0) = .int .i64 (cntL l [] n) := by
  unfold wM
  by_cases h : n ∈ nodesL l
  · simp [h]
  · have : cntL l [] n = 0 := cnt_zero.2 fun e he hd => absurd (hd ▸ dst_mem he) h
    simp [h, this]
theorem wM_step (l : List Edge) (e : Edge) (n : Int) :
    IMap.upd (IMap.upd (wM l []) e.src (some (.int .i64 (cntL l [] e.src)))) e.dst (some (.int .i64 ((cntL l [] e.dst : Int) + 1))) n = wM (l ++ [e]) [] n := by
  unfold IMap.upd wM
  rw [nodes_append, cnt_append, cnt_one]
  have hn : nodesL [e] = [e.src, e.dst] := rfl
  rw [hn]
  by_cases h1 : n = e.dst
  · subst h1
    simp
  · have h1' : ¬ e.dst = n := fun h => h1 h.symm
    by_cases h2 : n = e.src
    · subst h2
      simp [h1, h1']
    · simp [h1, h2, h1']
def freeB (l : List Edge) (out : List Int) (n : Int) : Bool := !decide (n ∈ out) && l.all (fun e => !(e.dst == n) || decide (e.src ∈ out))
theorem freeB_iff {l : List Edge} {out : List Int} {n : Int} : freeB l out n = true ↔ n ∉ out ∧ ∀ e ∈ l, e.dst = n → e.src ∈ out := by
  unfold freeB
  rw [Bool.and_eq_true, List.all_eq_true]
  simp only [Bool.not_eq_true', decide_eq_false_iff_not, Bool.or_eq_true, beq_eq_false_iff_ne, decide_eq_true_eq]
  refine and_congr_right fun _ => ⟨fun h e he hd => (h e he).elim (fun h => absurd hd h) id, fun h e he => ?_⟩
  by_cases hd : e.dst = n
  · exact .inr (h e he hd)
  · exact .inl hd
def minL : List Int → Option Int
  | [] => none
  | x :: xs => match minL xs with
    | none => some x
    | some y => some (if x ≤ y then x else y)
theorem minL_some : ∀ {xs : List Int} {m : Int}, minL xs = some m → m ∈ xs ∧ ∀ y ∈ xs, m ≤ y
  | [], _, h => by cases h
  | x :: xs, m, h => by
    unfold minL at h
    split at h
    · rename_i hn
      cases h
      refine ⟨by simp, fun y hy => ?_⟩
      cases xs with
      | nil => simp at hy; omega
      | cons z zs => exfalso; unfold minL at hn; split at hn <;> cases hn
    · rename_i y hy
      obtain ⟨a, b⟩ := minL_some hy
      cases h
      split
      · exact ⟨by simp, fun z hz => by
          rcases List.mem_cons.1 hz with rfl | hz
          · omega
          · have := b z hz; omega⟩
      · exact ⟨by simp [a], fun z hz => by
          rcases List.mem_cons.1 hz with rfl | hz
          · omega
          · exact b z hz⟩
theorem minL_none {xs : List Int} (h : minL xs = none) : xs = [] := by
  cases xs with
  | nil => rfl
  | cons z zs => exfalso; unfold minL at h; split at h <;> cases h
def nextF (l : List Edge) (out : List Int) : Option Int := minL ((nodesL l).filter (freeB l out))
structure IsNext (l : List Edge) (out : List Int) (n : Int) : Prop where
  node : n ∈ nodesL l
  free : freeB l out n = true
  least : ∀ m ∈ nodesL l, freeB l out m = true → n ≤ m
theorem next_of {l : List Edge} {out : List Int} {n : Int} (h : IsNext l out n) : nextF l out = some n := by
  unfold nextF
  cases hm : minL ((nodesL l).filter (freeB l out)) with
  | none =>
    have := minL_none hm
    rw [List.filter_eq_nil_iff] at this
    exact absurd h.free (this n h.node)
  | some m =>
    obtain ⟨a, b⟩ := minL_some hm
    rw [List.mem_filter] at a
    have h1 := h.least m a.1 a.2
    have h2 := b n (List.mem_filter.2 ⟨h.node, h.free⟩)
    congr 1
    omega
theorem next_none {l : List Edge} {out : List Int} (h : ∀ m ∈ nodesL l, freeB l out m = false) : nextF l out = none := by
  unfold nextF
  rw [List.filter_eq_nil_iff.2 fun m hm => by rw [h m hm]; simp]
  rfl
def orderF (l : List Edge) : Nat → List Int → List Int × Int
  | 0, _ => ([], 16)
  | f + 1, out => match nextF l out with
    | some n => orderF l f (out ++ [n])
    | none => if (nodesL l).all (fun n => decide (n ∈ out)) then (out, 0) else ([], 16)
def orderL (l : List Edge) : List Int × Int := orderF l ((nodesL l).length + 1) []
structure OInv (l : List Edge) (out : List Int) : Prop where
  nodup : out.Nodup
  sub : ∀ x ∈ out, x ∈ nodesL l
  shut : ∀ e ∈ l, e.dst ∈ out → e.src ∈ out
  val : orderF l ((nodesL l).length + 1 - out.length) out = orderL l
theorem OInv.nil (l : List Edge) : OInv l [] := ⟨List.nodup_nil, by simp, by simp, rfl⟩
theorem OInv.len {l : List Edge} {out : List Int} (h : OInv l out) : out.length ≤ (nodesL l).length := IMap.nodup_le h.nodup h.sub
theorem OInv.unfold_ {l : List Edge} {out : List Int} (h : OInv l out) : orderL l = (match nextF l out with
    | some n => orderF l ((nodesL l).length - out.length) (out ++ [n])
    | none => if (nodesL l).all (fun n => decide (n ∈ out)) then (out, 0) else ([], 16)) := by
  have := h.len
  rw [← h.val, show (nodesL l).length + 1 - out.length = ((nodesL l).length - out.length) + 1 by omega]
  rfl
theorem OInv.snoc {l : List Edge} {out : List Int} {n : Int} (h : OInv l out) (hn : IsNext l out n) : OInv l (out ++ [n]) := by
  obtain ⟨f1, f2⟩ := freeB_iff.1 hn.free
  refine ⟨?_, fun x hx => ?_, fun e he hd => ?_, ?_⟩
  · rw [List.nodup_append]
    exact ⟨h.nodup, by simp, fun a ha x hx => by simp at hx; subst hx; exact fun e => f1 (e ▸ ha)⟩
  · rcases List.mem_append.1 hx with hx | hx
    · exact h.sub x hx
    · simp at hx; subst hx; exact hn.node
  · rcases List.mem_append.1 hd with hd | hd
    · exact List.mem_append_left _ (h.shut e he hd)
    · simp at hd
      exact List.mem_append_left _ (f2 e he hd)
  · rw [h.unfold_, next_of hn]
    simp
theorem OInv.lt {l : List Edge} {out : List Int} {n : Int} (h : OInv l out) (hn : IsNext l out n) : out.length < (nodesL l).length := by
  have := (h.snoc hn).len
  simp at this
  omega
theorem OInv.done {l : List Edge} {out : List Int} (h : OInv l out) (hd : ∀ n ∈ nodesL l, n ∈ out) : orderL l = (out, 0) := by
  rw [h.unfold_, next_none fun m hm => by
    rw [Bool.eq_false_iff]
    exact fun hf => (freeB_iff.1 hf).1 (hd m hm)]
  have : (nodesL l).all (fun n => decide (n ∈ out)) = true := by
    rw [List.all_eq_true]
    exact fun x hx => by simpa using hd x hx
  simp only [this]
  rfl
theorem OInv.stuck {l : List Edge} {out : List Int} (h : OInv l out) (n : Int) (hn : n ∈ nodesL l) (hn' : n ∉ out) (hf : ∀ m ∈ nodesL l, freeB l out m = false) : orderL l = ([], 16) := by
  rw [h.unfold_, next_none hf]
  have : ¬ ((nodesL l).all (fun n => decide (n ∈ out)) = true) := by
    rw [List.all_eq_true]
    exact fun h => hn' (by simpa using h n hn)
  simp only [this]
  rfl
/-- The map while the edges of p are taken off. -/
def dM (l : List Edge) (out : List Int) (p : Int) (k : Nat) : Int → Option Value := fun n =>
  if n ∈ nodesL l ∧ n ∉ out ++ [p] then some (.int .i64 ((cntL (l.take k) (out ++ [p]) n + cntL (l.drop k) out n : Nat) : Int)) else none
theorem dM_zero (l : List Edge) (out : List Int) (p n : Int) : IMap.upd (wM l out) p none n = dM l out p 0 n := by
  unfold IMap.upd wM dM
  have : cntL (l.take 0) (out ++ [p]) n = 0 := by simp [cntL]
  rw [this, Nat.zero_add, List.drop_zero]
  by_cases h : n = p
  · simp [h]
  · simp [h]
theorem dM_all (l : List Edge) (out : List Int) (p n : Int) : dM l out p l.length n = wM l (out ++ [p]) n := by
  unfold wM dM
  have : cntL (l.drop l.length) out n = 0 := by simp [cntL]
  rw [this, List.take_length, Nat.add_zero]
theorem dM_skip {l : List Edge} {out : List Int} {p : Int} {k : Nat} (h : k < l.length) (hp : (edAt l k).src ≠ p) (n : Int) : dM l out p (k + 1) n = dM l out p k n := by
  unfold dM
  rw [take_ed h, cnt_append, drop_ed h, cnt_cons (edAt l k) (l.drop (k + 1)), cnt_one, cnt_one]
  have : ((edAt l k).src ∉ out ++ [p]) ↔ (edAt l k).src ∉ out := by simp [hp]
  simp only [this]
  split
  · rw [Nat.add_assoc]
  · rfl
theorem dM_take {l : List Edge} {out : List Int} {p : Int} {k : Nat} (h : k < l.length) (ho : OInv l out) (hn : IsNext l out p) (hp : (edAt l k).src = p) :
    ∃ v : Nat, v ≤ l.length ∧ dM l out p k (edAt l k).dst = some (.int .i64 ((v : Int) + 1)) ∧ ∀ n, IMap.upd (dM l out p k) (edAt l k).dst (some (.int .i64 v)) n = dM l out p (k + 1) n := by
  obtain ⟨f1, f2⟩ := freeB_iff.1 hn.free
  have hd : (edAt l k).dst ∉ out ++ [p] := by
    intro hm
    rcases List.mem_append.1 hm with hm | hm
    · exact f1 (hp ▸ ho.shut _ (edAt_mem h) hm)
    · simp at hm
      exact f1 (hp ▸ f2 _ (edAt_mem h) hm)
  have hm := dst_mem (edAt_mem h)
  have hin : (edAt l k).src ∈ out ++ [p] := by simp [hp]
  have hnin : (edAt l k).src ∉ out := hp ▸ f1
  refine ⟨cntL (l.take k) (out ++ [p]) (edAt l k).dst + cntL (l.drop (k + 1)) out (edAt l k).dst, ?_, ?_, fun n => ?_⟩
  · have h1 := cnt_le (l.take k) (out ++ [p]) (edAt l k).dst
    have h2 := cnt_le (l.drop (k + 1)) out (edAt l k).dst
    rw [List.length_take] at h1
    rw [List.length_drop] at h2
    omega
  · unfold dM
    rw [if_pos ⟨hm, hd⟩, drop_ed h, cnt_cons (edAt l k) (l.drop (k + 1)), cnt_one, if_pos ⟨rfl, hnin⟩]
    congr 2
    omega
  · unfold dM IMap.upd
    dsimp only
    rw [take_ed h, cnt_append, cnt_one, drop_ed h, cnt_cons (edAt l k) (l.drop (k + 1)), cnt_one]
    by_cases hx : n = (edAt l k).dst
    · subst hx
      simp only [hm, hd, hin, not_true, and_false, if_false, Nat.add_zero, not_false_eq_true, and_self, if_true]
    · have hx' : ¬ (edAt l k).dst = n := fun e => hx e.symm
      simp only [hx, hx', false_and, if_false, Nat.add_zero, Nat.zero_add]
/-- What the least free node is after the keys D. -/
def LeastI (m : Int → Option Value) (D : List Int) (x : Int) : Prop :=
  (x = -1 ∧ ∀ k ∈ D, m k ≠ some (.int .i64 0)) ∨ (x ∈ D ∧ 0 ≤ x ∧ m x = some (.int .i64 0) ∧ ∀ k ∈ D, m k = some (.int .i64 0) → x ≤ k)
theorem LeastI.nil (m : Int → Option Value) : LeastI m [] (-1) := .inl ⟨rfl, by simp⟩
theorem LeastI.skip {m : Int → Option Value} {D : List Int} {x k : Int} (h : LeastI m D x) (hk : m k ≠ some (.int .i64 0)) : LeastI m (D ++ [k]) x := by
  rcases h with ⟨a, b⟩ | ⟨a, a', b, c⟩
  · exact .inl ⟨a, fun y hy => by
      rcases List.mem_append.1 hy with hy | hy
      · exact b y hy
      · simp at hy; subst hy; exact hk⟩
  · exact .inr ⟨by simp [a], a', b, fun y hy h => by
      rcases List.mem_append.1 hy with hy | hy
      · exact c y hy h
      · simp at hy; subst hy; exact absurd h hk⟩
theorem LeastI.take {m : Int → Option Value} {D : List Int} {x k : Int} (h : LeastI m D x) (hk : m k = some (.int .i64 0)) (h0 : 0 ≤ k) (hlt : x < 0 ∨ k < x) : LeastI m (D ++ [k]) k := by
  refine .inr ⟨by simp, h0, hk, fun y hy hm => ?_⟩
  rcases List.mem_append.1 hy with hy | hy
  · rcases h with ⟨a, b⟩ | ⟨a, a', b, c⟩
    · exact absurd hm (b y hy)
    · have := c y hy hm; omega
  · simp at hy; omega
theorem LeastI.keep {m : Int → Option Value} {D : List Int} {x k : Int} (h : LeastI m D x) (h0 : ¬ x < 0) (hlt : ¬ k < x) : LeastI m (D ++ [k]) x := by
  rcases h with ⟨a, b⟩ | ⟨a, a', b, c⟩
  · omega
  · exact .inr ⟨by simp [a], a', b, fun y hy h => by
      rcases List.mem_append.1 hy with hy | hy
      · exact c y hy h
      · simp at hy; omega⟩
theorem wM_free {l : List Edge} {out : List Int} {n : Int} : wM l out n = some (.int .i64 0) ↔ n ∈ nodesL l ∧ freeB l out n = true := by
  unfold wM
  rw [freeB_iff, ← cnt_zero]
  split
  · rename_i h
    simp [h]
  · rename_i h
    simp
    intro h1 h2
    exact absurd ⟨h1, h2⟩ h
theorem wM_some {l : List Edge} {out : List Int} {n : Int} (h : (wM l out n).isSome = true) : n ∈ nodesL l ∧ n ∉ out := by
  unfold wM at h
  split at h
  · assumption
  · cases h
/-- All keys seen: the least free node, or none. -/
theorem LeastI.end_ {l : List Edge} {out D : List Int} {x : Int} (h : LeastI (wM l out) D x) (hall : ∀ k, (wM l out k).isSome = true → k ∈ D) :
    (x = -1 ∧ ∀ m ∈ nodesL l, freeB l out m = false) ∨ (0 ≤ x ∧ IsNext l out x) := by
  rcases h with ⟨a, b⟩ | ⟨a, a', b, c⟩
  · refine .inl ⟨a, fun m hm => ?_⟩
    rw [Bool.eq_false_iff]
    intro hf
    have := wM_free.2 ⟨hm, hf⟩
    exact b m (hall m (by rw [this]; rfl)) this
  · obtain ⟨n1, n2⟩ := wM_free.1 b
    exact .inr ⟨a', n1, n2, fun m hm hf => by
      have := wM_free.2 ⟨hm, hf⟩
      exact c m (hall m (by rw [this]; rfl)) this⟩
end Go.Proofs.Ytmnkgcnhmkggkaa
