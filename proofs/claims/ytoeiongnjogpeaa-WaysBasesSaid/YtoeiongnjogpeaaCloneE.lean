/- Proved here: slices.Clone at []api.Edge hands back a slice of the call's own with the same edges. Condition: the argument reads as at most 1000 edges. -/
import Derived.Test.YtoeiongnjogpeaaClone
import Derived.Test.YtoeiongnjogpeaaPlainG
namespace Go.Proofs.Ytoeiongnjogpeaa
open Go.RowKit
theorem RdE.cell_at {w W : World} {a : Addr} {l : List Edge} (h : RdE w (some a) l) (hb : Below w.heap.size w W) {j : Nat} {u : Value} (hj : (l.flatMap edgeCells)[j]? = some u) : W.cell? (a.add j) = some u := by
  have hjl : j < l.length * 4 := by
    have := (List.getElem?_eq_some_iff.1 hj).1
    rwa [flat_len] at this
  obtain ⟨i, r, hr, rfl⟩ : ∃ i r, r < 4 ∧ j = i * 4 + r := ⟨j / 4, j % 4, Nat.mod_lt _ (by omega), by omega⟩
  have hi : i < l.length := by omega
  obtain ⟨c0, c1, c2, c3⟩ := h.at_ hb hi
  obtain ⟨g, o, sp⟩ := a
  have hsp : sp = none := by
    cases sp with
    | none => rfl
    | some s =>
      exfalso
      have z := (h.at_ hb (i := 0) (by omega)).1
      revert z
      simp [World.cell?, Addr.add]
      split <;> simp
  subst hsp
  rw [flat_at l i r hi hr] at hj
  rw [Addr.add_lit] at c0 c1 c2 c3 ⊢
  match r, hr with
  | 0, _ => simp [edgeCells] at hj; subst hj; exact c0
  | 1, _ => simp [edgeCells] at hj; subst hj; rw [← Nat.add_assoc]; exact c1
  | 2, _ => simp [edgeCells] at hj; subst hj; rw [← Nat.add_assoc]; exact c2
  | 3, _ => simp [edgeCells] at hj; subst hj; rw [← Nat.add_assoc]; exact c3
theorem append_zero4 {P : Program} {w : World} {ops : Array Oper} {rest : List Oper} {o : Oper} {a : Act} {Q : Exit → Act → World → Prop} {size : Nat}
    (hgd : o.guard = none) (s x : Operand) (t : TypeId) (hop : o.op = Op.call { callee := Callee.builtin Builtin.append, args := #[s, x], argTypes := #[t, t] })
    (e : TypeId) (z : Value) (bytes : Nat) (ht : P.underlying t = some (.slice e)) (hi : (P.info? e).map (fun i => (i.zero, i.size, i.bytes)) = some (some z, size, bytes))
    (A A2 : Option Addr) (n cp c2 : Nat) (hn : n ≤ cp) (hs : a.eval s = .slice A n cp) (hx : a.eval x = .slice A2 0 c2)
    (hK : wpList P ops Q rest (a.put o.dst (.slice A n cp)) w) : wpList P ops Q (o :: rest) a w := by
  obtain ⟨i, hi', _, _, _⟩ := info_parts hi
  refine wpList_plain hgd fun K hK' => ?_
  have hrun := append_zero (P := P) w t o.type e i ht hi' A A2 n cp c2 hn
  unfold Oper.wp execOp
  simp only [hop, resolve, invoke, builtin, Sem.run_bind, Sem.run_pure, Result.andThen_ok, List.map_toArray, List.map_cons, List.map_nil, hs, hx, hrun]
  exact hK' _ _ hK
set_option maxHeartbeats 1000000 in
theorem clonee_any (F : Option Addr) (d : Nat) (f : List Edge) (w : World) (hf : RdE w F f) (hlen : f.length ≤ 1000) :
    Calls Try.prog 120 #[.slice F f.length d] w fun e w' => ∃ v, e = .returned v ∧ OwnS 94 4 w' w.heap.size v f.length (f.flatMap edgeCells) ∧ Below w.heap.size w w' := by
  have hm := hf.1
  have q22 : ∀ (w : World) (a : Option Addr) (n c n' c' : Nat), (binOp .eql 78 (.slice a n c) (.slice none n' c')).run Try.prog w = .ok (.bool a.isNone) w := fun w a n c n' c' => Lib.run_eql_slice_nil w _ _ a n c n' c' Try.underlying78
  cases F with
  | none =>
    have h0 : f = [] := by
      rcases f with _ | ⟨x, f⟩
      · rfl
      · obtain ⟨a, ha, _⟩ := hf.2 0 (by simp)
        cases ha
    subst h0
    go_enter Try.func120, Try.ntmps120
    go_wp2_with fail
    go_ret
    exact ⟨_, rfl, OwnS.nil _ _ _ _, Below.refl _ _⟩
  | some a =>
    have HF := Lib.hid hf
    clear hf
    rcases Nat.eq_zero_or_pos f.length with h0 | h0
    · obtain rfl : f = [] := List.eq_nil_of_length_eq_zero h0
      go_enter Try.func120, Try.ntmps120
      go_wp2_with (at_builtin; refine append_zero4 rfl _ _ 78 rfl 94 (.agg #[.int .i64 0, .int .i64 0, .int .i64 0, .int .i64 0]) 32 Try.underlying78 (by kernel_rfl) _ _ 0 0 _ (Nat.le_refl _) rfl rfl ?_)
      go_wp2_with fail
      go_ret
      refine ⟨_, rfl, ⟨rfl, _, 0, rfl, Nat.le_refl _, Nat.zero_le _, .inr ⟨w.heap.size, 0, #[], rfl, Nat.le_refl _, heap_alloc_new _ _, by simp, fun j u hj => by simp at hj⟩⟩, (Below.refl _ _).alloc (Nat.le_refl _) _⟩
    · obtain ⟨ti, t2, t3, t4, t5⟩ := info_parts (P := Try.prog) (e := 94) (z := .agg #[.int .i64 0, .int .i64 0, .int .i64 0, .int .i64 0]) (size := 4) (bytes := 32) (by kernel_rfl)
      have T2 := Lib.hid t2
      clear t2
      go_enter Try.func120, Try.ntmps120
      go_wp2_with (at_builtin; refine wpList_append_grows _ rfl _ _ 78 rfl 94 ti (.agg #[.int .i64 0, .int .i64 0, .int .i64 0, .int .i64 0]) 4 32 Try.underlying78 T2.out t3 t4 t5 rfl (by omega) _ 0 0 [] rfl (fun h => by cases h) rfl (fun b hb j u hj => by simp at hj) a f.length d (f.flatMap edgeCells) rfl (by rw [flat_len]) ?hcell ?hone (by omega) (by simp only [maxLen]; omega) (by omega) ?_)
      case hcell =>
        intro j u hj
        exact HF.out.cell_at (box_below _ _) hj
      case hone =>
        intro u hu
        obtain ⟨e, _, hu⟩ := List.mem_flatMap.1 hu
        simp only [edgeCells, List.mem_cons, List.not_mem_nil, or_false] at hu
        rcases hu with rfl | rfl | rfl | rfl <;> rfl
      intro v' w3 ho hg
      have hO : OwnS 94 4 w3 w.heap.size v' f.length (f.flatMap edgeCells) := by
        have h := (OwnS.of_row ho).mono (B' := w.heap.size) (by simp)
        simpa using h
      have hB : Below w.heap.size w w3 := ((Below.refl _ _).alloc (Nat.le_refl _) _).grown hg (by simp) (fun k hk => by cases hk)
      go_wp2_with fail
      go_ret
      exact ⟨_, rfl, hO, hB⟩
def turnE (e : Edge) : Edge := ⟨e.id, e.dst, e.src, e.cost⟩
def mixT (l : List Edge) (k : Nat) : List Edge := (l.take k).map turnE ++ l.drop k
theorem drop_ed' {l : List Edge} {k : Nat} (h : k < l.length) : l.drop k = edAt l k :: l.drop (k + 1) := by
  rw [List.drop_eq_getElem_cons h]
  congr 1
  have := edAt_eq h
  rw [List.getElem?_eq_getElem h] at this
  exact Option.some.inj this
theorem mixT_len (l : List Edge) (k : Nat) : (mixT l k).length = l.length := by
  unfold mixT; simp; omega
theorem mixT_at {l : List Edge} {k : Nat} (h : k < l.length) : edAt (mixT l k) k = edAt l k := by
  unfold mixT edAt
  have e1 : ((l.take k).map turnE).length = k := by rw [List.length_map, List.length_take]; omega
  rw [List.getD_eq_getElem?_getD, List.getElem?_append_right (by omega), List.getElem?_drop, List.getD_eq_getElem?_getD, e1]
  simp
theorem mixT_zero (l : List Edge) : mixT l 0 = l := by simp [mixT]
theorem mixT_all (l : List Edge) : mixT l l.length = l.map turnE := by simp [mixT]
theorem flat_set : ∀ (l : List Edge) (k : Nat) (e : Edge), k < l.length → edAt l k = e → (((l.flatMap edgeCells).set (k * 4 + 1) (.int .i64 e.dst)).set (k * 4 + 2) (.int .i64 e.src)) = (l.set k (turnE e)).flatMap edgeCells
  | [], k, e, h, _ => by simp at h
  | x :: l, 0, e, _, he => by
    have : x = e := by simpa [edAt] using he
    subst this
    simp [edgeCells, turnE]
  | x :: l, k + 1, e, h, he => by
    rw [edAt_succ] at he
    have ih := flat_set l k e (by simpa using h) he
    rw [List.set_cons_succ, List.flatMap_cons, List.flatMap_cons, ← ih]
    rw [List.set_append_right _ _ (by simp [edgeCells]; omega), List.set_append_right _ _ (by simp [edgeCells]; omega)]
    have e1 : (k + 1) * 4 + 1 - (edgeCells x).length = k * 4 + 1 := by simp [edgeCells]; omega
    have e2 : (k + 1) * 4 + 2 - (edgeCells x).length = k * 4 + 2 := by simp [edgeCells]; omega
    rw [e1, e2]
theorem mixT_succ {l : List Edge} {k : Nat} (h : k < l.length) : (mixT l k).set k (turnE (edAt l k)) = mixT l (k + 1) := by
  unfold mixT
  have e1 : ((l.take k).map turnE).length = k := by rw [List.length_map, List.length_take]; omega
  rw [List.set_append_right _ _ (by omega), e1, Nat.sub_self, drop_ed' h, List.set_cons_zero, take_ed h]
  simp
end Go.Proofs.Ytoeiongnjogpeaa
