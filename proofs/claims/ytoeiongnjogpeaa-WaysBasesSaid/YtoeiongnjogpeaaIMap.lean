/- Maps keyed by int, told as plain functions from Int to Option Value: the laws of make, lookup, store, delete, len. -/
import Derived.WalkKit
import Derived.Maps.Keyed
import Derived.WideLaws
import Derived.Deep.Draws
import Derived.Deep.QuietTactic
namespace Go.Proofs.Ytoeiongnjogpeaa.IMap
open Go.RowKit

def keyIs (k : Int) (e : MapEntry) : Bool := match e.key with
  | .int _ n => n == k
  | _ => false
def look (es : List MapEntry) (k : Int) : Option Value := (es.find? (keyIs k)).map (·.val)
structure Ents (es : List MapEntry) (clock : Nat) : Prop where
  keys : ∀ e ∈ es, ∃ k : Int, e.key = .int .i64 k
  apart : es.Pairwise (fun a b => a.key ≠ b.key)
  born : ∀ e ∈ es, e.born < clock
  stamps : (es.map (·.born)).Nodup
/-- Block b of w is a map keyed by int with n entries that answers m. -/
def IM (w : World) (b : Nat) (n : Nat) (m : Int → Option Value) : Prop :=
  ∃ es clock, w.heap[b]? = some (.map es clock) ∧ Ents es.toList clock ∧ es.size = n ∧ ∀ k, m k = look es.toList k

theorem Ents.nil (c : Nat) : Ents [] c := ⟨by simp, by simp, by simp, by simp⟩
theorem look_nil (k : Int) : look [] k = none := rfl
theorem look_cons (e : MapEntry) (es : List MapEntry) (k : Int) : look (e :: es) k = if keyIs k e then some e.val else look es k := by
  unfold look
  rw [List.find?_cons]
  cases keyIs k e <;> rfl
theorem keyIs_iff {e : MapEntry} {n : Int} (h : e.key = .int .i64 n) (k : Int) : keyIs k e = true ↔ n = k := by
  unfold keyIs; rw [h]; simp

def findI (k : Int) : List MapEntry → Nat → Option (Nat × Value)
  | [], _ => none
  | e :: es, i => if keyIs k e then some (i, e.val) else findI k es (i + 1)
theorem findNow_int (k : Int) : ∀ (es : List MapEntry) (i : Nat), (∀ e ∈ es, ∃ n : Int, e.key = .int .i64 n) →
    Instr.findNow (.int .i64) (.int .i64 k) es i = some (findI k es i)
  | [], _, _ => rfl
  | e :: es, i, h => by
    obtain ⟨n, hn⟩ := h e (by simp)
    have ih := findNow_int k es (i + 1) (fun e he => h e (by simp [he]))
    unfold Instr.findNow findI keyIs
    rw [hn]
    simp only [Instr.sameNow, if_true]
    by_cases hk : k = n
    · subst hk; simp
    · have h1 : (k == n) = false := by simp [hk]
      have h2 : (n == k) = false := by simp; exact fun e => hk e.symm
      simp only [h1, h2]
      simpa using ih
theorem findI_none (k : Int) : ∀ (es : List MapEntry) (i : Nat), findI k es i = none ↔ look es k = none
  | [], _ => by simp [findI, look]
  | e :: es, i => by
    rw [look_cons]; unfold findI
    cases keyIs k e
    · simpa using findI_none k es (i + 1)
    · simp
theorem findI_some {k : Int} {v : Value} : ∀ {es : List MapEntry} {i j : Nat}, findI k es i = some (j, v) →
    look es k = some v ∧ i ≤ j ∧ ∃ e, es[j - i]? = some e ∧ keyIs k e = true ∧ e.val = v
  | [], _, _, h => by simp [findI] at h
  | e :: es, i, j, h => by
    rw [look_cons]; unfold findI at h
    cases hk : keyIs k e
    · rw [hk] at h
      obtain ⟨h1, h2, e', h3, h4⟩ := findI_some (es := es) (i := i + 1) (j := j) (by simpa using h)
      refine ⟨by simpa using h1, by omega, e', ?_, h4⟩
      rw [show j - i = (j - (i + 1)) + 1 by omega]
      simpa using h3
    · rw [hk] at h
      simp at h
      obtain ⟨rfl, rfl⟩ := h
      exact ⟨by simp, Nat.le_refl _, e, by simp, hk, rfl⟩
theorem run_findKey_int {P : Program} {kt : TypeId} (hk : P.underlying kt = some (.int .i64)) (w : World) (k : Int) (es : List MapEntry) (h : ∀ e ∈ es, ∃ n : Int, e.key = .int .i64 n) :
    (Instr.findKey kt (.int .i64 k) es).run P w = .ok (findI k es 0) w := by
  simp [Instr.findKey, run_underlying hk, findNow_int k es 0 h]
theorem run_checkKey_int {P : Program} {kt : TypeId} (hk : P.underlying kt = some (.int .i64)) (w : World) (em : Bool) (k : Int) :
    (Instr.checkKey em 10000 kt (.int .i64 k)).run P w = .ok () w := by
  unfold Instr.checkKey
  simp [run_underlying hk]
theorem run_keyStays {P : Program} (w : World) (k : Int) : (Instr.keyThatStays (.int .i64 k) (.int .i64 k)).run P w = .ok (.int .i64 k) w := by
  simp [Instr.keyThatStays, Instr.sameBits]

def upd (m : Int → Option Value) (k : Int) (v : Option Value) : Int → Option Value := fun x => if x = k then v else m x
theorem upd_same (m : Int → Option Value) (k : Int) (v : Option Value) : upd m k v k = v := by simp [upd]
theorem upd_other (m : Int → Option Value) (k x : Int) (v : Option Value) (h : x ≠ k) : upd m k v x = m x := by simp [upd, h]

theorem IM.getObj {P : Program} {w : World} {b n : Nat} {m : Int → Option Value} (h : IM w b n m) : ∃ es clock, w.heap[b]? = some (.map es clock) ∧ (Go.getObj b).run P w = .ok (.map es clock) w := by
  obtain ⟨es, c, hb, _⟩ := h
  exact ⟨es, c, hb, by simp [Go.getObj, Sem.run, hb]⟩

theorem IM.lookup {P : Program} {w : World} {b n : Nat} {m : Int → Option Value} (h : IM w b n m) {t kt e : TypeId} (ht : P.underlying t = some (.map kt e)) (hk : P.underlying kt = some (.int .i64))
    {z : Value} (hz : (zeroValue e).run P w = .ok z w) (k : Int) : (Instr.lookup t (.map (some b)) (.int .i64 k) false).run P w = .ok ((m k).getD z) w := by
  obtain ⟨es, c, hb, he, hn, hm⟩ := h
  have hg : (Go.getObj b).run P w = .ok (.map es c) w := by simp [Go.getObj, Sem.run, hb]
  rw [hm]
  cases hf : findI k es.toList 0 with
  | none =>
    have hl := (findI_none k es.toList 0).1 hf
    simp [Instr.lookup, run_underlying ht, hg, run_checkKey_int hk, run_findKey_int hk w k es.toList he.keys, hf, hz, hl]
  | some x =>
    obtain ⟨j, v⟩ := x
    have hl := (findI_some hf).1
    simp [Instr.lookup, run_underlying ht, hg, run_checkKey_int hk, run_findKey_int hk w k es.toList he.keys, hf, hl]
theorem IM.lookup_ok {P : Program} {w : World} {b n : Nat} {m : Int → Option Value} (h : IM w b n m) {t kt e : TypeId} (ht : P.underlying t = some (.map kt e)) (hk : P.underlying kt = some (.int .i64))
    {z : Value} (hz : (zeroValue e).run P w = .ok z w) (k : Int) : (Instr.lookup t (.map (some b)) (.int .i64 k) true).run P w = .ok (.tuple #[(m k).getD z, .bool (m k).isSome]) w := by
  obtain ⟨es, c, hb, he, hn, hm⟩ := h
  have hg : (Go.getObj b).run P w = .ok (.map es c) w := by simp [Go.getObj, Sem.run, hb]
  rw [hm]
  cases hf : findI k es.toList 0 with
  | none =>
    have hl := (findI_none k es.toList 0).1 hf
    simp [Instr.lookup, run_underlying ht, hg, run_checkKey_int hk, run_findKey_int hk w k es.toList he.keys, hf, hz, hl]
  | some x =>
    obtain ⟨j, v⟩ := x
    have hl := (findI_some hf).1
    simp [Instr.lookup, run_underlying ht, hg, run_checkKey_int hk, run_findKey_int hk w k es.toList he.keys, hf, hl]
theorem IM.len {P : Program} {w : World} {b n : Nat} {m : Int → Option Value} (h : IM w b n m) {t kt e : TypeId} (ht : P.underlying t = some (.map kt e)) (ty : TypeId) :
    (Builtin.len_ #[t] ty #[.map (some b)]).run P w = .ok (.int .i64 n) w := by
  obtain ⟨es, c, hb, he, hn, hm⟩ := h
  have hg : (Go.getObj b).run P w = .ok (.map es c) w := by simp [Go.getObj, Sem.run, hb]
  subst hn
  simp [Builtin.len_, run_underlying ht, hg, goInt]

/-- The world with block b turned to o. -/
def setB (w : World) (b : Nat) (o : Obj) : World := { w with heap := w.heap.setIfInBounds b o }
theorem setB_same {w : World} {b : Nat} {x : Obj} (hb : w.heap[b]? = some x) (o : Obj) : (setB w b o).heap[b]? = some o := by
  have := (Array.getElem?_eq_some_iff.1 hb).1
  simp [setB, this]
theorem setB_other {w : World} {b i : Nat} (o : Obj) (h : i ≠ b) : (setB w b o).heap[i]? = w.heap[i]? := by
  simp only [setB, Array.getElem?_setIfInBounds]
  rw [if_neg (by omega)]
theorem setB_grown (w : World) (b : Nat) (o : Obj) : w.grownBy (setB w b o) (some b) :=
  ⟨rfl, rfl, rfl, by simp [setB], fun i _ hi => setB_other o (fun e => hi (by rw [e]))⟩
theorem run_setObj_map {P : Program} {w : World} {b : Nat} {es : Array MapEntry} {c : Nat} (hb : w.heap[b]? = some (.map es c)) (o : Obj) : (Go.setObj b o).run P w = .ok () (setB w b o) := by
  simp [Go.setObj, Sem.run, hb, setB]

theorem look_append (k : Int) (es : List MapEntry) (e : MapEntry) : look (es ++ [e]) k = (look es k).orElse (fun _ => if keyIs k e then some e.val else none) := by
  unfold look
  rw [List.find?_append]
  cases h : es.find? (keyIs k) with
  | some x => simp
  | none => cases hk : keyIs k e <;> simp [hk]
theorem look_none_iff {es : List MapEntry} (k : Int) : look es k = none ↔ ∀ e ∈ es, keyIs k e = false := by
  unfold look; simp [List.find?_eq_none]
theorem find_set {es : List MapEntry} (hap : es.Pairwise (fun a b => a.key ≠ b.key)) (hks : ∀ e ∈ es, ∃ k : Int, e.key = .int .i64 k) : ∀ {j : Nat} {e : MapEntry} {k : Int} (v : Value), es[j]? = some e → keyIs k e = true → ∀ x,
    look (es.set j { e with val := v }) x = if x = k then some v else look es x := by
  induction es with
  | nil => intro j e k v h; simp at h
  | cons y es ih =>
    intro j e k v h hk x
    obtain ⟨h1, h2⟩ := List.pairwise_cons.1 hap
    obtain ⟨ny, hny⟩ := hks y (by simp)
    cases j with
    | zero =>
      simp at h; subst h
      have := (keyIs_iff hny k).1 hk; subst this
      rw [List.set_cons_zero, look_cons, look_cons]
      by_cases hx : x = ny
      · subst hx; simp [keyIs, hny]
      · have e1 : keyIs x y = false := by rw [Bool.eq_false_iff]; intro hh; exact hx ((keyIs_iff hny x).1 hh).symm
        have e2 : keyIs x { y with val := v } = false := e1
        rw [e1, e2]; simp [hx]
    | succ j =>
      have h' : es[j]? = some e := by simpa using h
      rw [List.set_cons_succ, look_cons, look_cons, ih h2 (fun e he => hks e (by simp [he])) v h' hk x]
      by_cases hx : x = k
      · subst hx
        have hne : y.key ≠ e.key := h1 e (List.mem_of_getElem? h')
        obtain ⟨ne, hne'⟩ := hks e (by simp [List.mem_of_getElem? h'])
        have := (keyIs_iff hne' x).1 hk; subst this
        have : keyIs ne y = false := by
          rw [Bool.eq_false_iff]; intro hh
          have := (keyIs_iff hny ne).1 hh; subst this
          exact hne (hny.trans hne'.symm)
        rw [this]; simp
      · simp [hx]
theorem IM.update {P : Program} {w : World} {b n : Nat} {m : Int → Option Value} (h : IM w b n m) {t kt e : TypeId} (ht : P.underlying t = some (.map kt e)) (hk : P.underlying kt = some (.int .i64))
    (k : Int) (v : Value) : ∃ w', (Instr.mapUpdate t (.map (some b)) (.int .i64 k) v).run P w = .ok () w' ∧ IM w' b (if (m k).isSome then n else n + 1) (upd m k (some v)) ∧ w.grownBy w' (some b) := by
  obtain ⟨es, c, hb, he, hn, hm⟩ := h
  have hg : (Go.getObj b).run P w = .ok (.map es c) w := by simp [Go.getObj, Sem.run, hb]
  cases hf : findI k es.toList 0 with
  | none =>
    have hl := (findI_none k es.toList 0).1 hf
    refine ⟨setB w b (.map (es.push { key := .int .i64 k, val := v, born := c }) (c + 1)), ?_, ⟨_, _, setB_same hb _, ?_, ?_, ?_⟩, setB_grown _ _ _⟩
    · simp [Instr.mapUpdate, run_underlying ht, hg, run_checkKey_int hk, run_findKey_int hk w k es.toList he.keys, hf, run_setObj_map hb]
    · have hno := (look_none_iff k).1 hl
      rw [Array.toList_push]
      refine ⟨?_, ?_, ?_, ?_⟩
      · intro x hx
        rcases List.mem_append.1 hx with hx | hx
        · exact he.keys x hx
        · simp at hx; subst hx; exact ⟨k, rfl⟩
      · rw [List.pairwise_append]
        refine ⟨he.apart, by simp, fun a ha x hx => ?_⟩
        simp at hx; subst hx
        intro heq
        have := hno a ha
        rw [Bool.eq_false_iff] at this
        exact this ((keyIs_iff heq k).2 rfl)
      · intro x hx
        rcases List.mem_append.1 hx with hx | hx
        · have := he.born x hx; omega
        · simp at hx; subst hx; simp
      · rw [List.map_append, List.nodup_append]
        refine ⟨he.stamps, by simp, fun a ha x hx => ?_⟩
        simp at hx; subst hx
        obtain ⟨y, hy, rfl⟩ := List.mem_map.1 ha
        have := he.born y hy; omega
    · rw [hm k, hl]; simp [hn]
    · intro x
      rw [Array.toList_push, look_append, ← hm x]
      unfold upd
      by_cases hx : x = k
      · subst hx; rw [hm x, hl]; simp [keyIs]
      · have : (k == x) = false := by simp; exact fun e => hx e.symm
        simp [keyIs, hx, this]
  | some y =>
    obtain ⟨j, v0⟩ := y
    obtain ⟨hl, _, e0, h3, h4, h5⟩ := findI_some hf
    rw [Nat.sub_zero] at h3
    obtain ⟨nk, hnk⟩ := he.keys e0 (List.mem_of_getElem? h3)
    have hkk := (keyIs_iff hnk k).1 h4
    subst hkk
    have h3' : es[j]? = some e0 := by rw [← Array.getElem?_toList]; exact h3
    have hjlt : j < es.size := (Array.getElem?_eq_some_iff.1 h3').1
    have hmod : (es.modify j fun e => { e with key := .int .i64 nk, val := v }).toList = es.toList.set j { e0 with val := v } := by
      apply List.ext_getElem?
      intro i
      rw [Array.getElem?_toList, Array.getElem?_modify, List.getElem?_set]
      by_cases hij : j = i
      · subst hij
        have hge : es[j] = e0 := by
          have := Array.getElem?_eq_getElem hjlt
          rw [h3'] at this
          exact (Option.some.inj this).symm
        simp [hjlt, hge]
        rw [← hnk]
      · simp [hij]
    refine ⟨setB w b (.map (es.modify j fun e => { e with key := .int .i64 nk, val := v }) c), ?_, ⟨_, _, setB_same hb _, ?_, ?_, ?_⟩, setB_grown _ _ _⟩
    · simp [Instr.mapUpdate, run_underlying ht, hg, run_checkKey_int hk, run_findKey_int hk w nk es.toList he.keys, hf, run_setObj_map hb, h3', hnk, run_keyStays]
    · have hst : ∀ {α : Type} (f : MapEntry → α), (∀ e v, f { e with val := v } = f e) → (es.toList.set j { e0 with val := v }).map f = es.toList.map f := by
        intro α f hfv
        rw [List.map_set, hfv]
        apply List.ext_getElem?
        intro i
        rw [List.getElem?_set]
        split
        · rename_i hij; subst hij
          split
          · rename_i hlt; rw [List.getElem?_map, h3]; rfl
          · rename_i hlt; rw [List.getElem?_eq_none (by omega)]
        · rfl
      rw [hmod]
      have hks := hst (·.key) (fun _ _ => rfl)
      have hbs := hst (·.born) (fun _ _ => rfl)
      refine ⟨?_, ?_, ?_, ?_⟩
      · intro x hx
        have : x.key ∈ (es.toList.set j { e0 with val := v }).map (·.key) := List.mem_map.2 ⟨x, hx, rfl⟩
        rw [hks] at this
        obtain ⟨y, hy, hyx⟩ := List.mem_map.1 this
        rw [← hyx]; exact he.keys y hy
      · have := he.apart
        rw [← List.pairwise_map (f := fun (e : MapEntry) => e.key) (R := fun a b => a ≠ b)] at this ⊢
        rw [hks]; exact this
      · intro x hx
        have : x.born ∈ (es.toList.set j { e0 with val := v }).map (·.born) := List.mem_map.2 ⟨x, hx, rfl⟩
        rw [hbs] at this
        obtain ⟨y, hy, hyx⟩ := List.mem_map.1 this
        rw [← hyx]; exact he.born y hy
      · rw [hbs]; exact he.stamps
    · rw [hm nk, hl]; simp [hn]
    · intro x
      rw [hmod, find_set he.apart he.keys v h3 h4 x, ← hm x]
      rfl

/-- 'm[k] = v' at the operation, for the walk. -/
theorem wp_update {P : Program} (w : World) {ops : Array Oper} {rest : List Oper} {o : Oper} {a : Act} {Q : Exit → Act → World → Prop}
    (hg : o.guard = none) (mo x vo : Operand) (t : TypeId) (hop : o.op = Op.mapUpdate t mo x vo) (kt e : TypeId) (ht : P.underlying t = some (.map kt e)) (hk : P.underlying kt = some (.int .i64))
    (b n : Nat) (m : Int → Option Value) (hm : a.eval mo = .map (some b)) (h : IM w b n m) (k : Int) (v : Value) (hx : a.eval x = .int .i64 k) (hv : a.eval vo = v)
    (hK : ∀ w', IM w' b (if (m k).isSome then n else n + 1) (upd m k (some v)) → w.grownBy w' (some b) → wpList P ops Q rest (a.put o.dst undef) w') :
    wpList P ops Q (o :: rest) a w := by
  refine wpList_plain hg fun K' hK' => ?_
  obtain ⟨w', hrun, r1, r2⟩ := h.update ht hk k v
  unfold Oper.wp
  simp [execOp, hop, hm, hx, hv, hrun, Result.andThen]
  exact hK' _ _ (hK w' r1 r2)

/-- A map literal's entry, likewise. -/
theorem wp_insert {P : Program} (w : World) {ops : Array Oper} {rest : List Oper} {o : Oper} {a : Act} {Q : Exit → Act → World → Prop}
    (hg : o.guard = none) (mo x vo : Operand) (t : TypeId) (hop : o.op = Op.insert t mo x vo) (kt e : TypeId) (ht : P.underlying t = some (.map kt e)) (hk : P.underlying kt = some (.int .i64))
    (b n : Nat) (m : Int → Option Value) (hm : a.eval mo = .map (some b)) (h : IM w b n m) (k : Int) (v : Value) (hx : a.eval x = .int .i64 k) (hv : a.eval vo = v)
    (hK : ∀ w', IM w' b (if (m k).isSome then n else n + 1) (upd m k (some v)) → w.grownBy w' (some b) → wpList P ops Q rest (a.put o.dst undef) w') :
    wpList P ops Q (o :: rest) a w := by
  refine wpList_plain hg fun K' hK' => ?_
  obtain ⟨w', hrun, r1, r2⟩ := h.update ht hk k v
  unfold Oper.wp
  simp [execOp, hop, hm, hx, hv, hrun, Result.andThen]
  exact hK' _ _ (hK w' r1 r2)

/-- Holds the next operation to be a literal's entry. -/
theorem gate_insert {P : Program} {ops : Array Oper} {Q : Exit → Act → World → Prop} {dst : Option Tmp} {t : TypeId} {m x v : Operand} {ty : TypeId} {pos : String} {after : Array Edge} {g : Option (Nat × Bool)} {rest : List Oper} {a : Act} {w : World}
    (h : wpList P ops Q (⟨dst, Op.insert t m x v, ty, pos, after, g⟩ :: rest) a w) : wpList P ops Q (⟨dst, Op.insert t m x v, ty, pos, after, g⟩ :: rest) a w := h

/-! ### delete -/
theorem look_eraseIdx {es : List MapEntry} (hap : es.Pairwise (fun a b => a.key ≠ b.key)) (hks : ∀ e ∈ es, ∃ k : Int, e.key = .int .i64 k) : ∀ {j : Nat} {e : MapEntry} {k : Int}, es[j]? = some e → keyIs k e = true → ∀ x,
    look (es.eraseIdx j) x = if x = k then none else look es x := by
  induction es with
  | nil => intro j e k h; simp at h
  | cons y es ih =>
    intro j e k h hk x
    obtain ⟨h1, h2⟩ := List.pairwise_cons.1 hap
    obtain ⟨ny, hny⟩ := hks y (by simp)
    cases j with
    | zero =>
      simp at h; subst h
      have := (keyIs_iff hny k).1 hk; subst this
      rw [List.eraseIdx_cons_zero, look_cons]
      by_cases hx : x = ny
      · subst hx
        simp only [if_true]
        rw [look_none_iff]
        intro a ha
        rw [Bool.eq_false_iff]; intro hh
        obtain ⟨na, hna⟩ := hks a (by simp [ha])
        have := (keyIs_iff hna x).1 hh; subst this
        exact h1 a ha (hny.trans hna.symm)
      · have e1 : keyIs x y = false := by rw [Bool.eq_false_iff]; intro hh; exact hx ((keyIs_iff hny x).1 hh).symm
        simp [hx, e1]
    | succ j =>
      have h' : es[j]? = some e := by simpa using h
      rw [List.eraseIdx_cons_succ, look_cons, look_cons, ih h2 (fun e he => hks e (by simp [he])) h' hk x]
      by_cases hx : x = k
      · subst hx
        have hne : y.key ≠ e.key := h1 e (List.mem_of_getElem? h')
        obtain ⟨ne, hne'⟩ := hks e (by simp [List.mem_of_getElem? h'])
        have := (keyIs_iff hne' x).1 hk; subst this
        have : keyIs ne y = false := by
          rw [Bool.eq_false_iff]; intro hh
          have := (keyIs_iff hny ne).1 hh; subst this
          exact hne (hny.trans hne'.symm)
        rw [this]; simp
      · simp [hx]
theorem IM.delete {P : Program} {w : World} {b n : Nat} {m : Int → Option Value} (h : IM w b n m) {t kt e : TypeId} (ht : P.underlying t = some (.map kt e)) (hk : P.underlying kt = some (.int .i64))
    (kt' ty : TypeId) (k : Int) (hs : (m k).isSome = true) : ∃ w', (Builtin.delete_ #[t, kt'] ty #[.map (some b), .int .i64 k]).run P w = .ok (.tuple #[]) w' ∧ IM w' b (n - 1) (upd m k none) ∧ 0 < n ∧ w.grownBy w' (some b) := by
  obtain ⟨es, c, hb, he, hn, hm⟩ := h
  have hg : (Go.getObj b).run P w = .ok (.map es c) w := by simp [Go.getObj, Sem.run, hb]
  cases hf : findI k es.toList 0 with
  | none =>
    have hl := (findI_none k es.toList 0).1 hf
    rw [hm k, hl] at hs; cases hs
  | some y =>
    obtain ⟨j, v0⟩ := y
    obtain ⟨hl, _, e0, h3, h4, h5⟩ := findI_some hf
    rw [Nat.sub_zero] at h3
    have h3' : es[j]? = some e0 := by rw [← Array.getElem?_toList]; exact h3
    have hjlt : j < es.size := (Array.getElem?_eq_some_iff.1 h3').1
    have hmod : (es.eraseIdxIfInBounds j).toList = es.toList.eraseIdx j := by
      simp [Array.eraseIdxIfInBounds, hjlt]
    have hsub : (es.toList.eraseIdx j).Sublist es.toList := List.eraseIdx_sublist _ _
    refine ⟨setB w b (.map (es.eraseIdxIfInBounds j) c), ?_, ⟨_, _, setB_same hb _, ?_, ?_, ?_⟩, by omega, setB_grown _ _ _⟩
    · simp [Builtin.delete_, run_underlying ht, hg, run_checkKey_int hk, run_findKey_int hk w k es.toList he.keys, hf, run_setObj_map hb]
    · rw [hmod]
      exact ⟨fun x hx => he.keys x (hsub.subset hx), he.apart.sublist hsub, fun x hx => he.born x (hsub.subset hx), he.stamps.sublist (hsub.map _)⟩
    · rw [← Array.length_toList, hmod, List.length_eraseIdx_of_lt (by simpa using hjlt)]; simp [hn]
    · intro x
      rw [hmod, look_eraseIdx he.apart he.keys h3 h4 x, ← hm x]
      rfl
/-! ### make; what other writes leave -/
theorem heap_new (w : World) (o : Obj) : (w.alloc o).heap[w.heap.size]? = some o := by
  show (w.heap.push o)[w.heap.size]? = _
  simp
theorem IM.made (w : World) : IM (w.alloc (.map #[] 0)) w.heap.size 0 (fun _ => none) :=
  ⟨#[], 0, heap_new _ _, Ents.nil 0, rfl, fun _ => rfl⟩
theorem IM.of_block {w w' : World} {b n : Nat} {m : Int → Option Value} (h : IM w b n m) (hb : w'.heap[b]? = w.heap[b]?) : IM w' b n m := by
  obtain ⟨es, c, h0, r⟩ := h
  exact ⟨es, c, by rw [hb]; exact h0, r⟩
theorem IM.lt {w : World} {b n : Nat} {m : Int → Option Value} (h : IM w b n m) : b < w.heap.size := by
  obtain ⟨es, c, h0, r⟩ := h
  exact (Array.getElem?_eq_some_iff.1 h0).1
theorem IM.kept {w w' : World} {b n : Nat} {m : Int → Option Value} (h : IM w b n m) {row : Option Nat} (hg : w.grownBy w' row) (hne : some b ≠ row) : IM w' b n m :=
  h.of_block (hg.block b h.lt hne)
theorem IM.alloc {w : World} {b n : Nat} {m : Int → Option Value} (h : IM w b n m) (o : Obj) : IM (w.alloc o) b n m := h.kept (World.grownBy_alloc w o none) (by simp)
theorem IM.drew {w : World} {b n : Nat} {m : Int → Option Value} (h : IM w b n m) : IM w.drew b n m := h
theorem IM.drewN {w : World} {b n : Nat} {m : Int → Option Value} (h : IM w b n m) (j : Nat) : IM (w.drewN j) b n m := h
theorem IM.below {w w' : World} {b n B : Nat} {m : Int → Option Value} (h : IM w b n m) (hw : Below B w w') (hb : b < B) : IM w' b n m := h.of_block (hw.block b hb)
theorem IM.setCell {w : World} {b n : Nat} {m : Int → Option Value} (h : IM w b n m) (a : Addr) (v : Value) : IM (w.setCell a v) b n m := by
  obtain ⟨es, c, h0, r⟩ := h
  refine ⟨es, c, ?_, r⟩
  simp only [World.setCell, Array.getElem?_modify]
  split
  · rw [h0]; rfl
  · exact h0
theorem IM.congr {w : World} {b n : Nat} {m m' : Int → Option Value} (h : IM w b n m) (hm : ∀ k, m' k = m k) : IM w b n m' := by
  obtain ⟨es, c, h0, he, hn, h1⟩ := h
  exact ⟨es, c, h0, he, hn, fun k => (hm k).trans (h1 k)⟩
theorem IM.size_zero {w : World} {b : Nat} {m : Int → Option Value} (h : IM w b 0 m) (k : Int) : m k = none := by
  obtain ⟨es, c, h0, he, hn, h1⟩ := h
  rw [h1]
  have : es = #[] := Array.eq_empty_of_size_eq_zero hn
  subst this; rfl
theorem IM.size_pos {w : World} {b n : Nat} {m : Int → Option Value} (h : IM w b (n + 1) m) : ∃ k, (m k).isSome = true := by
  obtain ⟨es, c, h0, he, hn, h1⟩ := h
  have h0' : 0 < es.toList.length := by rw [Array.length_toList]; omega
  obtain ⟨k, hk⟩ := he.keys es.toList[0] (List.getElem_mem h0')
  refine ⟨k, ?_⟩
  rw [h1]
  cases hl : look es.toList k with
  | some v => rfl
  | none =>
    have := (look_none_iff k).1 hl _ (List.getElem_mem h0')
    rw [Bool.eq_false_iff] at this
    exact absurd ((keyIs_iff hk k).2 rfl) this

/-! ### range over a map that the loop leaves alone -/
/-- Block r is an iterator over the map in block b, which answers m and has n entries; the keys D have been handed out. -/
def Iter (w : World) (r b n : Nat) (m : Int → Option Value) (D : List Int) : Prop :=
  ∃ (es : Array MapEntry) (clock : Nat) (seen : Array Nat) (vis : List MapEntry), w.heap[b]? = some (.map es clock) ∧ Ents es.toList clock ∧ es.size = n ∧ (∀ k, m k = look es.toList k) ∧
    w.heap[r]? = some (.mapIter (some b) clock seen clock) ∧ (∀ e ∈ vis, e ∈ es.toList) ∧ vis.map (·.key) = D.map (Value.int .i64) ∧ seen.toList = vis.map (·.born) ∧ D.Nodup
theorem Iter.im {w : World} {r b n : Nat} {m : Int → Option Value} {D : List Int} (h : Iter w r b n m D) : IM w b n m := by
  obtain ⟨es, c, seen, vis, h1, h2, h3, h4, _⟩ := h
  exact ⟨es, c, h1, h2, h3, h4⟩
theorem Iter.of_blocks {w w' : World} {r b n : Nat} {m : Int → Option Value} {D : List Int} (h : Iter w r b n m D) (hb : w'.heap[b]? = w.heap[b]?) (hr : w'.heap[r]? = w.heap[r]?) : Iter w' r b n m D := by
  obtain ⟨es, c, seen, vis, h1, h2, h3, h4, h5, h6⟩ := h
  exact ⟨es, c, seen, vis, by rw [hb]; exact h1, h2, h3, h4, by rw [hr]; exact h5, h6⟩
theorem IM.range {P : Program} {w : World} {b n : Nat} {m : Int → Option Value} (h : IM w b n m) {t kt e : TypeId} (ht : P.underlying t = some (.map kt e)) :
    ∃ w', (Instr.range t (.map (some b))).run P w = .ok (.pointer (some ⟨w.heap.size, 0, none⟩)) w' ∧ Iter w' w.heap.size b n m [] ∧ Below w.heap.size w w' ∧ w'.heap.size = w.heap.size + 1 := by
  have hlt := h.lt
  obtain ⟨es, c, h0, he, hn, h1⟩ := h
  refine ⟨w.alloc (.mapIter (some b) c #[] c), run_range_map w t kt e b es c ht h0, ⟨es, c, #[], [], ?_, he, hn, h1, heap_new _ _, by simp, by simp, by simp, by simp⟩, (Below.refl _ _).alloc (Nat.le_refl _) _, by simp⟩
  rw [heap_alloc_old w _ hlt, h0]
theorem nodup_born {es : List MapEntry} (hn : (es.map (·.born)).Nodup) {a b : MapEntry} (ha : a ∈ es) (hb : b ∈ es) (h : a.born = b.born) : a = b := by
  have h1 := find_born a es hn ha
  have h2 := find_born b es hn hb
  rw [h] at h1
  rw [h1] at h2
  exact Option.some.inj h2
theorem apart_key {es : List MapEntry} (hap : es.Pairwise (fun a b => a.key ≠ b.key)) {a b : MapEntry} (ha : a ∈ es) (hb : b ∈ es) (h : a.key = b.key) : a = b := by
  induction es with
  | nil => cases ha
  | cons y es ih =>
    obtain ⟨h1, h2⟩ := List.pairwise_cons.1 hap
    rcases List.mem_cons.1 ha with e1 | ha' <;> rcases List.mem_cons.1 hb with e2 | hb'
    · rw [e1, e2]
    · subst e1; exact absurd h (h1 _ hb')
    · subst e2; exact absurd h.symm (h1 _ ha')
    · exact ih h2 ha' hb'
theorem nodup_le {α : Type} : ∀ {l es : List α}, l.Nodup → (∀ x ∈ l, x ∈ es) → l.length ≤ es.length
  | [], _, _, _ => by simp
  | x :: l, es, hn, h => by
    obtain ⟨h1, h2⟩ := List.nodup_cons.1 hn
    obtain ⟨a, b, rfl⟩ := List.append_of_mem (h x (by simp))
    have := nodup_le (l := l) (es := a ++ b) h2 (fun y hy => by
      have := h y (by simp [hy])
      rcases List.mem_append.1 this with h' | h'
      · exact List.mem_append.2 (.inl h')
      · rcases List.mem_cons.1 h' with rfl | h'
        · exact absurd hy h1
        · exact List.mem_append.2 (.inr h'))
    simp at this ⊢
    omega
theorem look_mem {es : List MapEntry} (hks : ∀ e ∈ es, ∃ k : Int, e.key = .int .i64 k) (hap : es.Pairwise (fun a b => a.key ≠ b.key)) {e : MapEntry} {k : Int} (he : e ∈ es) (hk : e.key = .int .i64 k) : look es k = some e.val := by
  unfold look
  cases hf : es.find? (keyIs k) with
  | none =>
    have := List.find?_eq_none.1 hf e he
    exact absurd ((keyIs_iff hk k).2 rfl) this
  | some x =>
    have h1 := List.mem_of_find?_eq_some hf
    have h2 : keyIs k x = true := List.find?_some hf
    obtain ⟨nx, hnx⟩ := hks x h1
    have := (keyIs_iff hnx k).1 h2
    subst this
    have : x = e := apart_key hap h1 he (hnx.trans hk.symm)
    rw [this]; rfl
theorem look_some {es : List MapEntry} (hks : ∀ e ∈ es, ∃ k : Int, e.key = .int .i64 k) {k : Int} {v : Value} (h : look es k = some v) : ∃ e ∈ es, e.key = .int .i64 k ∧ e.val = v := by
  unfold look at h
  cases hf : es.find? (keyIs k) with
  | none => rw [hf] at h; cases h
  | some x =>
    rw [hf] at h
    have h1 := List.mem_of_find?_eq_some hf
    have h2 : keyIs k x = true := List.find?_some hf
    obtain ⟨nx, hnx⟩ := hks x h1
    have := (keyIs_iff hnx k).1 h2
    subst this
    exact ⟨x, h1, hnx, by simpa using h⟩
/-- One step of the iterator: all keys have been handed out; or one that has not been comes. -/
theorem Iter.next {P : Program} {w : World} {r b n : Nat} {m : Int → Option Value} {D : List Int} (h : Iter w r b n m D) :
    ((∀ k, (m k).isSome = true → k ∈ D) ∧ ∀ ty, (Instr.next (.pointer (some ⟨r, 0, none⟩)) false ty).run P w = .ok (.tuple #[.bool false]) w) ∨
    ∃ k v w', m k = some v ∧ k ∉ D ∧ D.length < n ∧ (∀ ty, (Instr.next (.pointer (some ⟨r, 0, none⟩)) false ty).run P w = .ok (.tuple #[.bool true, .int .i64 k, v]) w') ∧ Iter w' r b n m (D ++ [k]) ∧ w.grownBy w' (some r) ∧ w'.heap.size = w.heap.size := by
  obtain ⟨es, c, seen, vis, hb, he, hn, hm, hr, hvis, hkeys, hseen, hD⟩ := h
  have hrb : r ≠ b := by rintro rfl; rw [hb] at hr; cases hr
  have hgb : (Go.getObj b).run P w = .ok (.map es c) w := by simp [Go.getObj, Sem.run, hb]
  have hgr : (Go.getObj r).run P w = .ok (.mapIter (some b) c seen c) w := by simp [Go.getObj, Sem.run, hr]
  have hseenc : ∀ e ∈ es.toList, seen.contains e.born = true ↔ e ∈ vis := by
    intro e hee
    rw [Array.contains_iff_mem, ← Array.mem_toList_iff, hseen, List.mem_map]
    constructor
    · rintro ⟨e', he', hbb⟩
      rw [← nodup_born he.stamps (hvis e' he') hee hbb]; exact he'
    · intro hv; exact ⟨e, hv, rfl⟩
  have hkeysD : ∀ e ∈ es.toList, ∀ k, e.key = .int .i64 k → (e ∈ vis ↔ k ∈ D) := by
    intro e hee k hk
    constructor
    · intro hv
      have : e.key ∈ vis.map (·.key) := List.mem_map.2 ⟨e, hv, rfl⟩
      rw [hkeys, hk] at this
      obtain ⟨k', hk', hkk⟩ := List.mem_map.1 this
      cases hkk; exact hk'
    · intro hkD
      have : Value.int .i64 k ∈ vis.map (·.key) := by rw [hkeys]; exact List.mem_map.2 ⟨k, hkD, rfl⟩
      obtain ⟨e', he', hek⟩ := List.mem_map.1 this
      have : e' = e := apart_key he.apart (hvis e' he') hee (by rw [hk]; exact hek)
      rw [← this]; exact he'
  have hlenD : D.length = vis.length := by have := congrArg List.length hkeys; simpa using this.symm
  have htest := next_test_false seen es c c (fun x hx => he.born x hx) (Nat.le_refl _)
  have hmem : ∀ x ∈ (es.filter fun e => !seen.contains e.born).toList, x ∈ es.toList ∧ x ∉ vis := by
    intro x hx
    rw [Array.toList_filter, List.mem_filter] at hx
    refine ⟨hx.1, fun hv => ?_⟩
    have := (hseenc x hx.1).2 hv
    rw [this] at hx; simp at hx
  have hall : ∀ x ∈ es.toList, x ∉ vis → x ∈ (es.filter fun e => !seen.contains e.born).toList := by
    intro x hx hv
    rw [Array.toList_filter, List.mem_filter]
    refine ⟨hx, ?_⟩
    cases hc : seen.contains x.born with
    | false => rfl
    | true => exact absurd ((hseenc x hx).1 hc) hv
  generalize hL : (es.filter fun e => !seen.contains e.born) = L at hmem hall
  have e1 : L.filter (fun x => decide (x.born < c)) = L := Array.filter_eq_self.2 (fun x hx => by simpa using he.born x (hmem x (by simpa using hx)).1)
  have e2 : L.filter (fun x => decide (x.born ≥ c)) = #[] := by
    rw [Array.filter_eq_empty_iff]
    intro x hx
    have := he.born x (hmem x (by simpa using hx)).1
    simp; omega
  have hsub : vis.length ≤ es.toList.length := by
    have hnd : vis.Nodup := by
      have : (D.map (Value.int .i64)).Nodup := by
        rw [List.nodup_iff_pairwise_ne, List.pairwise_map]
        exact (List.nodup_iff_pairwise_ne.1 hD).imp (fun h e => h (by cases e; rfl))
      rw [← hkeys] at this
      exact List.Pairwise.of_map (S := fun a b => a ≠ b) (·.key) (fun a b h e => h (by rw [e])) this
    exact nodup_le hnd (fun x hx => hvis x hx)
  by_cases h0 : L.size = 0
  · left
    have hLe : L = #[] := Array.eq_empty_of_size_eq_zero h0
    subst hLe
    refine ⟨fun k hk => ?_, fun ty => ?_⟩
    · rw [hm] at hk
      obtain ⟨v, hv⟩ := Option.isSome_iff_exists.1 hk
      obtain ⟨e, hee, hek, _⟩ := look_some he.keys hv
      refine (hkeysD e hee k hek).1 ?_
      rcases Classical.em (e ∈ vis) with h | h
      · exact h
      · have := hall e hee h
        simp at this
    · simp only [Instr.next, Sem.run_bind, hgr, hgb, Result.andThen, htest, Bool.false_eq_true, if_false, hL, e1, e2]
      simp [choose, Sem.run, Question.forced]
  · right
    have hne : L.isEmpty = false := by simp [Array.isEmpty, h0]
    have hch : ∃ (j : Nat) (w1 : World), j < L.size ∧ w1.heap = w.heap ∧ w1.os = w.os ∧ w1.tape = w.tape ∧ w1.output = w.output ∧ (choose (Question.mapNext L.size)).run P w = .ok j w1 := by
      by_cases hf : L.size ≤ 1
      · exact ⟨0, w, by omega, rfl, rfl, rfl, rfl, by simp [choose, Sem.run, Question.forced, hf]⟩
      · exact ⟨_, w.drew, Nat.mod_lt _ (by omega), rfl, rfl, rfl, rfl, by
          simp only [choose, Sem.run, Question.forced, decide_eq_true_eq, hf, if_false, Question.cut]
          rfl⟩
    obtain ⟨j, w1, hj, hw1, hw2, hw3, hw4, hrun⟩ := hch
    have hx := hmem L[j] (by simp)
    obtain ⟨k, hk⟩ := he.keys _ hx.1
    have hkD : k ∉ D := fun h => hx.2 ((hkeysD _ hx.1 k hk).2 h)
    have hr1 : w1.heap[r]? = some (.mapIter (some b) c seen c) := by rw [hw1]; exact hr
    refine ⟨k, L[j].val, setB w1 r (.mapIter (some b) c (seen.push L[j].born) c), ?_, hkD, ?_, fun ty => ?_, ⟨es, c, _, vis ++ [L[j]], ?_, he, hn, hm, setB_same hr1 _, ?_, ?_, ?_, ?_⟩, ?_, ?_⟩
    · rw [hm, look_mem he.keys he.apart hx.1 hk]
    · have : (vis ++ [L[j]]).length ≤ es.toList.length := by
        have hnd : (vis ++ [L[j]]).Nodup := by
          have : ((D ++ [k]).map (Value.int .i64)).Nodup := by
            rw [List.nodup_iff_pairwise_ne, List.pairwise_map]
            have : (D ++ [k]).Nodup := by
              rw [List.nodup_append]
              exact ⟨hD, by simp, fun a ha x hx => by simp at hx; subst hx; exact fun e => hkD (e ▸ ha)⟩
            exact (List.nodup_iff_pairwise_ne.1 this).imp (fun h e => h (by cases e; rfl))
          rw [List.map_append, ← hkeys] at this
          have h2 : (vis.map (·.key) ++ [k].map (Value.int .i64)) = (vis ++ [L[j]]).map (·.key) := by simp [hk]
          rw [h2] at this
          exact List.Pairwise.of_map (S := fun a b => a ≠ b) (·.key) (fun a b h e => h (by rw [e])) this
        exact nodup_le hnd (fun x hx' => by
          rcases List.mem_append.1 hx' with h | h
          · exact hvis x h
          · simp at h; subst h; exact hx.1)
      rw [List.length_append, List.length_singleton] at this
      have h3 : es.toList.length = n := by rw [Array.length_toList]; exact hn
      omega
    · have hset : (Go.setObj r (.mapIter (some b) c (seen.push L[j].born) c)).run P w1 = .ok () (setB w1 r (.mapIter (some b) c (seen.push L[j].born) c)) := by
        simp [Go.setObj, Sem.run, hr1, setB]
      simp only [Instr.next, Sem.run_bind, hgr, hgb, Result.andThen, htest, Bool.false_eq_true, if_false, hL, e1, e2, Array.append_empty, hne, Array.empty_append, Array.size_map, hrun, Array.getElem?_map, Array.getElem?_eq_getElem hj, Option.map_some, hset, hk]
      rfl
    · rw [setB_other _ hrb.symm, hw1]; exact hb
    · intro e he'
      rcases List.mem_append.1 he' with h | h
      · exact hvis e h
      · simp at h; subst h; exact hx.1
    · simp [hkeys, hk]
    · simp [hseen]
    · rw [List.nodup_append]
      exact ⟨hD, by simp, fun a ha x hx => by simp at hx; subst hx; exact fun e => hkD (e ▸ ha)⟩
    · have := setB_grown w1 r (.mapIter (some b) c (seen.push L[j].born) c)
      exact ⟨this.os.trans hw2, this.tape.trans hw3, this.output.trans hw4, by rw [← hw1]; exact this.size, fun i hi hne' => by rw [← hw1] at hi ⊢; exact this.block i hi hne'⟩
    · simp [setB, hw1]
/-- What the step has handed out, asked for behind it. -/
theorem Iter.entry {P : Program} {w : World} {r b n : Nat} {m : Int → Option Value} {D : List Int} {k : Int} {v : Value} (h : Iter w r b n m (D ++ [k])) (hv : m k = some v) :
    (Instr.entry (.pointer (some ⟨r, 0, none⟩))).run P w = .ok (.tuple #[.int .i64 k, v]) w := by
  obtain ⟨es, c, seen, vis, hb, he, hn, hm, hr, hvis, hkeys, hseen, hD⟩ := h
  have hgb : (Go.getObj b).run P w = .ok (.map es c) w := by simp [Go.getObj, Sem.run, hb]
  have hgr : (Go.getObj r).run P w = .ok (.mapIter (some b) c seen c) w := by simp [Go.getObj, Sem.run, hr]
  obtain ⟨vis', e, rfl⟩ : ∃ vis' e, vis = vis' ++ [e] := by
    rcases List.eq_nil_or_concat vis with rfl | ⟨v', e, rfl⟩
    · simp at hkeys
    · exact ⟨v', e, by simp⟩
  have hek : e.key = .int .i64 k := by
    rw [List.map_append, List.map_append] at hkeys
    have := List.append_inj_right' hkeys (by simp)
    simpa using this
  have hee : e ∈ es.toList := hvis e (by simp)
  have hval : e.val = v := by
    have := look_mem he.keys he.apart hee hek
    rw [← hm, hv] at this
    exact (Option.some.inj this).symm
  have hback : seen.back? = some e.born := by
    rw [← Array.getLast?_toList, hseen]; simp
  have hf : es.find? (·.born == e.born) = some e := by rw [← Array.find?_toList]; exact find_born e es.toList he.stamps hee
  simp only [Instr.entry, Sem.run_bind, hgr, hgb, Result.andThen, hback, bne_self_eq_false, Bool.false_eq_true, if_false, hf, hek, hval]
  rfl
end Go.Proofs.Ytoeiongnjogpeaa.IMap
