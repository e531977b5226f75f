/- Proved here: how the arguments of a law open. A slice of edges reads as a list of edges, a slice of whole numbers as a list of whole numbers. Conditions: the argument is as the row gives it. Proved here: how a slice of whole numbers opens, with the range of its numbers; how an array of two numbers opens. Conditions: the argument is as the row gives it. -/
import Derived.Test.YtoeiongnjogpeaaBase
import Derived.Test.YtoeiongnjogpeaaChecked
import Derived.Deep.Slices
import Derived.Deep.Fields
import Derived.ChangeSame
import Derived.OpenShut
namespace Go.Proofs.Ytoeiongnjogpeaa
open Go.ChangeShapes Go.WideShapes Go.Deep

section
variable {H : Type} {enc : TypeId × Value → H} {P : Program} {w : World} {base : Nat} {spare : Nat → Bool} {held : Bool}
theorem open_slice_fields {t e : TypeId} {fs : Array Field} {fuel : Nat} {cs : List Value} {x : DataW H × List MemPlace} (ht : P.underlying t = some (.slice e)) (he : P.underlying e = some (.struct fs))
    (hone : oneCellFields P fs = true) (hC : P.cellsOf e = fs.size) (h : DataW.trod enc P w base spare held fuel t cs = some x) :
    cs = [.slice none 0 0] ∨
    ∃ (a : Addr) (len cap m : Nat), cs = [.slice (some a) len cap] ∧ len ≤ cap ∧ cap ≤ maxLen ∧ m = (if spare a.block then cap else len) ∧
      ∀ i, i < m → ∀ (j : Nat) (f : Field), fs[j]? = some f → ∃ (n : Nat) (v : Value) (y : DataW H × List MemPlace), w.cell? (a.add (i * fs.size + j)) = some v ∧ DataW.trod enc P w base spare held n f.type [v] = some y := by
  rcases open_slice ht h with h0 | ⟨a, len, cap, m, n, D, Pl, hcs, hb, hl, hm, hmm, hx, hi⟩
  · exact .inl h0.1
  · refine .inr ⟨a, len, cap, m, hcs, hl, hm, hmm, fun i him j f hj => ?_⟩
    obtain ⟨cs', hc, ht'⟩ := hi i him
    rw [hC] at hc
    obtain ⟨ys, n', hn', hy, hlen, hyl, hf⟩ := DataW.trod_struct he ht'
    obtain ⟨_, hcl, hat⟩ := World.cells?_some hc
    obtain ⟨ho, hk⟩ := hone_of hone j f hj
    have hjl : j < fs.size := (Array.getElem?_eq_some_iff.1 hj).1
    have hcell := hat j hjl
    have hv : cs'[j]? = some (cs'[j]'(by omega)) := List.getElem?_eq_getElem (by omega)
    have h1 := hf j f hj
    rw [ho, hk] at h1
    have hone' : (cs'.drop j).take 1 = [cs'[j]'(by omega)] := by
      rw [List.drop_eq_getElem_cons (by omega)]
      rfl
    rw [hone'] at h1
    have hys : ys[j]? = some (ys[j]'(by omega)) := List.getElem?_eq_getElem (by omega)
    refine ⟨n', _, _, ?_, h1.trans hys⟩
    rw [← Go.Deep.add_add, hcell, hv]
end

set_option maxRecDepth 100000 in
/-- A slice of edges, as a row gives it, reads as a list of edges. -/
theorem open_edges {H : Type} {enc : TypeId × Value → H} {W : World} {base : Nat} {v : Value} {d : DataW H} {p : List MemPlace}
    (hv : Value.okWide Try.prog W .any base 78 v) (h : DataW.Trod enc Try.prog W 0 (fun _ => true) true 78 v d p) :
    ∃ A l cap, v = .slice A (List.length l) cap ∧ RdE W A l := by
  obtain ⟨a, len, cap, rfl⟩ := okWide_slice Try.underlying78 hv
  obtain ⟨fuel, hf⟩ := h
  rcases open_slice_fields Try.underlying78 Try.underlying94 (by kernel_rfl) (by kernel_rfl) hf with hcs | ⟨x, l, c, m, hcs, hl, hm, hmm, hi⟩
  · simp [Value.cells] at hcs
    obtain ⟨rfl, rfl, rfl⟩ := hcs
    refine ⟨none, [], 0, rfl, ?_, ?_⟩
    · simp
    · intro i hi
      simp at hi
  · simp [Value.cells] at hcs
    obtain ⟨rfl, rfl, rfl⟩ := hcs
    simp only [if_true] at hmm
    subst hmm
    have get : ∀ i, i < len → ∃ e : Edge, W.cell? (x.add (i * 4)) = some (.int .i64 e.id) ∧ W.cell? ⟨(x.add (i * 4)).block, (x.add (i * 4)).off + 1, none⟩ = some (.int .i64 e.src) ∧
        W.cell? ⟨(x.add (i * 4)).block, (x.add (i * 4)).off + 2, none⟩ = some (.int .i64 e.dst) ∧ W.cell? ⟨(x.add (i * 4)).block, (x.add (i * 4)).off + 3, none⟩ = some (.int .i64 e.cost) := by
      intro i h
      have one : ∀ j, j < 4 → ∃ n, W.cell? (x.add (i * 4 + j)) = some (.int .i64 n) := by
        intro j hj
        match j, hj with
        | 0, _ =>
          obtain ⟨n, v, y, hc, ht⟩ := hi i (by omega) 0 _ rfl
          obtain ⟨k, hk, _⟩ := DataW.trod_int Try.underlying3 ht
          simp only [List.cons.injEq, and_true] at hk
          subst hk
          exact ⟨k, hc⟩
        | 1, _ =>
          obtain ⟨n, v, y, hc, ht⟩ := hi i (by omega) 1 _ rfl
          obtain ⟨k, hk, _⟩ := DataW.trod_int Try.underlying3 ht
          simp only [List.cons.injEq, and_true] at hk
          subst hk
          exact ⟨k, hc⟩
        | 2, _ =>
          obtain ⟨n, v, y, hc, ht⟩ := hi i (by omega) 2 _ rfl
          obtain ⟨k, hk, _⟩ := DataW.trod_int Try.underlying3 ht
          simp only [List.cons.injEq, and_true] at hk
          subst hk
          exact ⟨k, hc⟩
        | 3, _ =>
          obtain ⟨n, v, y, hc, ht⟩ := hi i (by omega) 3 _ rfl
          obtain ⟨k, hk, _⟩ := DataW.trod_int Try.underlying3 ht
          simp only [List.cons.injEq, and_true] at hk
          subst hk
          exact ⟨k, hc⟩
      have at_ : ∀ j, j ≠ 0 → W.cell? (x.add (i * 4 + j)) = W.cell? ⟨(x.add (i * 4)).block, (x.add (i * 4)).off + j, none⟩ := fun j hj => by
        rw [← Go.Deep.add_add]
        generalize x.add (i * 4) = y
        unfold Addr.add
        rw [if_neg hj]
      obtain ⟨n0, h0⟩ := one 0 (by omega)
      obtain ⟨n1, h1⟩ := one 1 (by omega)
      obtain ⟨n2, h2⟩ := one 2 (by omega)
      obtain ⟨n3, h3⟩ := one 3 (by omega)
      exact ⟨⟨n0, n1, n2, n3⟩, h0, (at_ 1 (by omega)).symm.trans h1, (at_ 2 (by omega)).symm.trans h2, (at_ 3 (by omega)).symm.trans h3⟩
    have hL : ∃ l : List Edge, l.length = len ∧ ∀ i, i < len → W.cell? (x.add (i * 4)) = some (.int .i64 (edAt l i).id) ∧ W.cell? ⟨(x.add (i * 4)).block, (x.add (i * 4)).off + 1, none⟩ = some (.int .i64 (edAt l i).src) ∧
        W.cell? ⟨(x.add (i * 4)).block, (x.add (i * 4)).off + 2, none⟩ = some (.int .i64 (edAt l i).dst) ∧ W.cell? ⟨(x.add (i * 4)).block, (x.add (i * 4)).off + 3, none⟩ = some (.int .i64 (edAt l i).cost) := by
      refine ⟨(List.range len).map fun i => if h : i < len then Classical.choose (get i h) else ⟨0, 0, 0, 0⟩, by simp, fun i h => ?_⟩
      have e : edAt ((List.range len).map fun i => if h : i < len then Classical.choose (get i h) else ⟨0, 0, 0, 0⟩) i = Classical.choose (get i h) := by
        simp [edAt, h]
      rw [e]
      exact Classical.choose_spec (get i h)
    obtain ⟨l, rfl, hc⟩ := hL
    refine ⟨some x, l, _, rfl, ?_, fun i h => ⟨x, rfl, hc i h⟩⟩
    have : maxLen ≤ 9223372036854775807 := by decide
    omega

set_option maxRecDepth 100000 in
/-- A slice of whole numbers, as a row gives it, reads as a list of whole numbers. -/
theorem open_nums {H : Type} {enc : TypeId × Value → H} {W : World} {base : Nat} {v : Value} {d : DataW H} {p : List MemPlace}
    (hv : Value.okWide Try.prog W .any base 25 v) (h : DataW.Trod enc Try.prog W 0 (fun _ => true) true 25 v d p) :
    ∃ A l cap, v = .slice A (List.length l) cap ∧ RdI W A l := by
  obtain ⟨a, len, cap, rfl⟩ := okWide_slice Try.underlying25 hv
  obtain ⟨fuel, hf⟩ := h
  rcases open_ints Try.underlying25 Try.underlying3 (by kernel_rfl) hf with ⟨hcs, _⟩ | ⟨x, l, c, zs, hcs, _, hl, hm, hz, _, hcell, _⟩
  · simp [Value.cells] at hcs
    obtain ⟨rfl, rfl, rfl⟩ := hcs
    refine ⟨none, [], 0, rfl, ?_, ?_⟩
    · simp
    · intro i hi
      simp at hi
  · simp [Value.cells] at hcs
    obtain ⟨rfl, rfl, rfl⟩ := hcs
    simp only [if_true] at hz
    have hlen : (zs.take len).length = len := by simp; omega
    refine ⟨some x, zs.take len, cap, by rw [hlen], ?_, fun i h => ⟨x, rfl, ?_⟩⟩
    · have : maxLen ≤ 9223372036854775807 := by decide
      omega
    · rw [hlen] at h
      rw [hcell i (by omega)]
      have e : numAt (zs.take len) i = zs.getD i 0 := by
        simp [numAt, List.getD, h]
      rw [e]
end Go.Proofs.Ytoeiongnjogpeaa
namespace Go.Proofs.Ytoeiongnjogpeaa
open Go.ChangeShapes Go.WideShapes Go.Deep
theorem wf64 {n : Int} (h : (Lit.int .i64 n).wf = true) : -9223372036854775808 ≤ n ∧ n ≤ 9223372036854775807 := by
  simp [Lit.wf, IntKind.min, IntKind.max, IntKind.signed, IntKind.bits] at h
  omega
set_option maxRecDepth 100000 in
/-- A slice of whole numbers, as a row gives it, reads as a list of whole numbers of 64 bits. -/
theorem open_numsw {H : Type} {enc : TypeId × Value → H} {W : World} {base : Nat} {v : Value} {d : DataW H} {p : List MemPlace}
    (hv : Value.okWide Try.prog W .any base 25 v) (h : DataW.Trod enc Try.prog W 0 (fun _ => true) true 25 v d p) :
    ∃ A l cap, v = .slice A (List.length l) cap ∧ (RdI W A l ∧ ∀ x ∈ l, -9223372036854775808 ≤ x ∧ x ≤ 9223372036854775807) := by
  obtain ⟨a, len, cap, rfl⟩ := okWide_slice Try.underlying25 hv
  obtain ⟨fuel, hf⟩ := h
  rcases open_ints Try.underlying25 Try.underlying3 (by kernel_rfl) hf with ⟨hcs, _⟩ | ⟨x, l, c, zs, hcs, _, hl, hm, hz, _, hcell, hwf⟩
  · simp [Value.cells] at hcs
    obtain ⟨rfl, rfl, rfl⟩ := hcs
    refine ⟨none, [], 0, rfl, ⟨?_, ?_⟩, by simp⟩
    · simp
    · intro i hi
      simp at hi
  · simp [Value.cells] at hcs
    obtain ⟨rfl, rfl, rfl⟩ := hcs
    simp only [if_true] at hz
    have hlen : (zs.take len).length = len := by simp; omega
    refine ⟨some x, zs.take len, cap, by rw [hlen], ⟨?_, fun i h => ⟨x, rfl, ?_⟩⟩, fun y hy => wf64 (hwf y (List.mem_of_mem_take hy))⟩
    · have : maxLen ≤ 9223372036854775807 := by decide
      omega
    · rw [hlen] at h
      rw [hcell i (by omega)]
      have e : numAt (zs.take len) i = zs.getD i 0 := by
        simp [numAt, List.getD, h]
      rw [e]
set_option maxRecDepth 100000 in
/-- An array of two whole numbers. -/
theorem open_pair {H : Type} {enc : TypeId × Value → H} {W : World} {base : Nat} {v : Value} {d : DataW H} {p : List MemPlace}
    (hv : Value.okWide Try.prog W .any base 65 v) (h : DataW.Trod enc Try.prog W 0 (fun _ => true) true 65 v d p) :
    ∃ (a b : Int) (_u : Unit), v = .agg #[.int .i64 a, .int .i64 b] ∧ ((-9223372036854775808 ≤ a ∧ a ≤ 9223372036854775807) ∧ (-9223372036854775808 ≤ b ∧ b ≤ 9223372036854775807)) := by
  simp only [Value.okWide, Try.underlying65] at hv
  obtain ⟨cs, rfl, hsz, _⟩ := hv
  have hsz2 : cs.size = 2 := by rw [hsz]; kernel_rfl
  obtain ⟨fuel, hf⟩ := h
  obtain ⟨xs, m, _, _, _, hxl, hat⟩ := DataW.trod_array Try.underlying65 hf
  have hce : Try.prog.cellsOf 3 = 1 := by kernel_rfl
  rw [hce] at hat
  have h0 := hat 0 (by omega)
  have h1 := hat 1 (by omega)
  rw [List.getElem?_eq_getElem (by omega)] at h0 h1
  obtain ⟨a, ha, _, wa⟩ := DataW.trod_int Try.underlying3 h0
  obtain ⟨b, hb, _, wb⟩ := DataW.trod_int Try.underlying3 h1
  refine ⟨a, b, (), ?_, wf64 wa, wf64 wb⟩
  rcases cs with ⟨l⟩
  simp only [List.size_toArray] at hsz2
  match l, hsz2 with
  | [x, y], _ =>
    simp [Value.cells] at ha hb
    rw [ha, hb]
end Go.Proofs.Ytoeiongnjogpeaa
