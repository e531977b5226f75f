/- Proved here: how a slice of whole numbers opens, with the range of its numbers; how an array of two numbers opens. Conditions: the argument is as the row gives it. -/
import Derived.Test.YtmnkgcnhmkggkaaOpen
namespace Go.Proofs.Ytmnkgcnhmkggkaa
open Go.ChangeShapes Go.WideShapes Go.Deep
theorem wf64 {n : Int} (h : (Lit.int .i64 n).wf = true) : -9223372036854775808 ≤ n ∧ n ≤ 9223372036854775807 := by
  simp [Lit.wf, IntKind.min, IntKind.max, IntKind.signed, IntKind.bits] at h
  omega
/-- A slice of whole numbers, as a row gives it, reads as a list of whole numbers of 64 bits. -/
theorem open_numsw {H : Type} {enc : TypeId × Value → H} {W : World} {base : Nat} {v : Value} {d : DataW H} {p : List MemPlace}
    (hv : Value.okWide Try.prog W .any base 27 v) (h : DataW.Trod enc Try.prog W 0 (fun _ => true) true 27 v d p) :
    ∃ A l cap, v = .slice A (List.length l) cap ∧ (RdI W A l ∧ ∀ x ∈ l, -9223372036854775808 ≤ x ∧ x ≤ 9223372036854775807) := by
  obtain ⟨a, len, cap, rfl⟩ := okWide_slice Try.underlying27 hv
  obtain ⟨fuel, hf⟩ := h
  rcases open_ints Try.underlying27 Try.underlying3 (by kernel_rfl) hf with ⟨hcs, _⟩ | ⟨x, l, c, zs, hcs, _, hl, hm, hz, _, hcell, hwf⟩
  · simp [Value.cells] at hcs
    obtain ⟨rfl, rfl, rfl⟩ := hcs
    refine ⟨none, [], 0, rfl, ⟨?_, ?_⟩, by simp⟩
    · simp
    · intro i hi
      simp at hi
  · simp [Value.cells] at hcs
    obtain ⟨rfl, rfl, rfl⟩ := hcs
    simp only [if_true] at hz
    have hlen : (zs.take len).length = len := by simp; omega
    refine ⟨some x, zs.take len, cap, by rw [hlen], ⟨?_, fun i h => ⟨x, rfl, ?_⟩⟩, fun y hy => wf64 (hwf y (List.mem_of_mem_take hy))⟩
    · have : maxLen ≤ 9223372036854775807 := by decide
      omega
    · rw [hlen] at h
      rw [hcell i (by omega)]
      have e : numAt (zs.take len) i = zs.getD i 0 := by
        simp [numAt, List.getD, h]
      rw [e]
/-- An array of two whole numbers. -/
theorem open_pair {H : Type} {enc : TypeId × Value → H} {W : World} {base : Nat} {v : Value} {d : DataW H} {p : List MemPlace}
    (hv : Value.okWide Try.prog W .any base 36 v) (h : DataW.Trod enc Try.prog W 0 (fun _ => true) true 36 v d p) :
    ∃ (a b : Int) (_u : Unit), v = .agg #[.int .i64 a, .int .i64 b] ∧ ((-9223372036854775808 ≤ a ∧ a ≤ 9223372036854775807) ∧ (-9223372036854775808 ≤ b ∧ b ≤ 9223372036854775807)) := by
  simp only [Value.okWide, Try.underlying36] at hv
  obtain ⟨cs, rfl, hsz, _⟩ := hv
  have hsz2 : cs.size = 2 := by rw [hsz]; kernel_rfl
  obtain ⟨fuel, hf⟩ := h
  obtain ⟨xs, m, _, _, _, hxl, hat⟩ := DataW.trod_array Try.underlying36 hf
  have hce : Try.prog.cellsOf 3 = 1 := by kernel_rfl
  rw [hce] at hat
  have h0 := hat 0 (by omega)
  have h1 := hat 1 (by omega)
  rw [List.getElem?_eq_getElem (by omega)] at h0 h1
  obtain ⟨a, ha, _, wa⟩ := DataW.trod_int Try.underlying3 h0
  obtain ⟨b, hb, _, wb⟩ := DataW.trod_int Try.underlying3 h1
  refine ⟨a, b, (), ?_, wf64 wa, wf64 wb⟩
  rcases cs with ⟨l⟩
  simp only [List.size_toArray] at hsz2
  match l, hsz2 with
  | [x, y], _ =>
    simp [Value.cells] at ha hb
    rw [ha, hb]
end Go.Proofs.Ytmnkgcnhmkggkaa
