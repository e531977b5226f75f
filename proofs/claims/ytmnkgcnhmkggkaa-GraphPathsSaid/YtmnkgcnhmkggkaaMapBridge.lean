/- Proved here: a map with int keys (IM) is one of the kit's owned maps, and slices.Sorted(maps.Keys(m)) hands back its keys, sorted. Conditions: the keys fit into 64 bits, there are at most 100000. -/
import Derived.Test.YtmnkgcnhmkggkaaKeys
import Derived.Test.YtmnkgcnhmkggkaaIMap
import Derived.Test.YtmnkgcnhmkggkaaOwn
namespace Go.Proofs.Ytmnkgcnhmkggkaa
open Go.RowKit Go.Maps Go.Sort Go.Shelf Go.WideElems
abbrev anyR (H : Type) : Value → Option (DataW H × List MemPlace) := fun _ => some (.nil, [])
theorem key_read {k : Int} (hk : -9223372036854775808 ≤ k ∧ k ≤ 9223372036854775807) : keyOf Try.prog 3 (.int .i64 k) = some (.int .i64 k) := by
  have hw : (Lit.int .i64 k).wf = true := by
    simp [Lit.wf, IntKind.min, IntKind.max, IntKind.signed, IntKind.bits]
    omega
  simp [keyOf, Try.underlying3, mapKey, hw]
theorem IM.owns (H : Type) {w : World} {b n : Nat} {m : Int → Option Value} (h : IMap.IM w b n m) (hr : ∀ x, (m x).isSome = true → -9223372036854775808 ≤ x ∧ x ≤ 9223372036854775807) (hn : n ≤ 100000) :
    ∃ D0 : DataW H, w.ownsMap Try.prog 3 (anyR H) b n D0 ∧ Maps.size D0 = n ∧ ∀ x, x ∈ intKeys D0 ↔ (m x).isSome = true := by
  obtain ⟨es, clock, hb, he, hs, hm⟩ := h
  have hkey : ∀ e ∈ es.toList, ∃ k : Int, e.key = .int .i64 k ∧ (m k).isSome = true := fun e hem => by
    obtain ⟨k, hk⟩ := he.keys e hem
    refine ⟨k, hk, ?_⟩
    rw [hm k]
    unfold IMap.look
    rw [Option.isSome_map]
    rw [List.find?_isSome]
    exact ⟨e, hem, (IMap.keyIs_iff hk k).2 rfl⟩
  have hrd : ∀ e ∈ es.toList, ∃ k : Int, e.key = .int .i64 k ∧ (m k).isSome = true ∧ Go.WideElems.rd Try.prog 3 (anyR H) e = some (.int .i64 k, .nil) := fun e hem => by
    obtain ⟨k, hk, hs⟩ := hkey e hem
    exact ⟨k, hk, hs, by simp [Go.WideElems.rd, hk, key_read (hr k hs), anyR]⟩
  refine ⟨_, ⟨es, clock, hb, ⟨by simp only [maxLen]; omega, ?_, fun x hx => by obtain ⟨k, _, _, h⟩ := hrd x hx; exact ⟨_, h⟩⟩, by omega, rfl⟩, ?_, fun x => ?_⟩
  · exact ⟨he.born, he.stamps, List.pairwise_map.2 he.apart⟩
  · show ((es.toList.map (Go.WideElems.rg Try.prog 3 (anyR H))).foldr DataW.insert []).length = n
    rw [length_sorted]; simp [hs]
  · show x ∈ (((es.toList.map (Go.WideElems.rg Try.prog 3 (anyR H))).foldr DataW.insert []).map fun p => Go.intOf p.1) ↔ _
    rw [List.mem_map]
    constructor
    · rintro ⟨p, hp, rfl⟩
      obtain ⟨e, hem, rfl⟩ := List.mem_map.1 (mem_sorted.1 hp)
      obtain ⟨k, hk, hs, hr'⟩ := hrd e hem
      rw [Go.WideElems.rg_of hr']
      exact hs
    · intro hx
      rw [hm x] at hx
      unfold IMap.look at hx
      rw [Option.isSome_map, List.find?_isSome] at hx
      obtain ⟨e, hem, hke⟩ := hx
      obtain ⟨k, hk, hs, hr'⟩ := hrd e hem
      have hkx : k = x := (IMap.keyIs_iff hk x).1 hke
      exact ⟨_, mem_sorted.2 (List.mem_map.2 ⟨e, hem, rfl⟩), by rw [Go.WideElems.rg_of hr']; exact hkx⟩
/-- maps.Keys at a map. -/
theorem keys_any (b : Nat) (w : World) : Calls Try.prog 33 #[.map (some b)] w fun e w' => e = .returned (.func (.func 49) #[] #[.pointer (some ⟨w.heap.size, 0, none⟩)]) ∧ w' = w.alloc (.cells #[.map (some b)] 48) :=
  callsIn_wide.1 (Ks.keys_in Fence.wide 6 trivial rfl (some b) w)
/-- slices.Sorted at the iterator that maps.Keys hands back: the keys, ascending. -/
theorem sorted_any (b n : Nat) (m : Int → Option Value) (w : World) (h : IMap.IM w b n m) (hr : ∀ x, (m x).isSome = true → -9223372036854775808 ≤ x ∧ x ≤ 9223372036854775807) (hn : n ≤ 100000) :
    Calls Try.prog 32 #[.func (.func 49) #[] #[.pointer (some ⟨w.heap.size, 0, none⟩)]] (w.alloc (.cells #[.map (some b)] 48)) fun e w' =>
      ∃ (v : Value) (ss : List Int), e = .returned v ∧ (∀ x, x ∈ ss ↔ (m x).isSome = true) ∧ ss.Pairwise (· < ·) ∧ OwnS 3 1 w' w.heap.size v ss.length (ss.map (Value.int .i64)) ∧ Below w.heap.size w w' := by
  obtain ⟨D0, hown, hsz, hkeys⟩ := IM.owns Unit h hr hn
  have hbl := h.lt
  have hseq : SeqGives Fence.wide (6 - 1 - 1 - 1 - 1) Try.prog 49 #[.pointer (some ⟨w.heap.size, 0, none⟩)] encZ (fun ss => ss.Perm (intKeys D0)) (Maps.size D0) (w.alloc (.cells #[.map (some b)] 48)) :=
    Ks.keys_gives Fence.wide _ trivial rfl (by omega) w.heap.size b n D0 _ (by simp) (by simp) (by
      obtain ⟨es, clock, hb, Ft, hs, hD⟩ := hown
      exact ⟨es, clock, (Below.heap_alloc _ _ b hbl).trans hb, Ft, hs, hD⟩)
  have hc := callsIn_wide.1 (Ks.sorted_in Fence.wide (6 - 1) trivial trivial trivial trivial rfl (by omega) (Ks.sorts_wide _) 49 _ trivial (enters_of Try.func49 (by kernel_rfl) rfl) _ _ (by rw [hsz]; simp only [maxLen]; omega) (by rw [hsz]; omega) _ hseq)
  refine hc.mono ?_
  rintro e w' ⟨v, ss, rfl, hperm, hrow, _, hb⟩
  have hnd : (intKeys D0).Nodup := by
    obtain ⟨es, hD, hpw, _⟩ := hown.entries (int_keyed Try.underlying3)
    obtain ⟨es', hD', hko⟩ := hown.keysOf
    obtain rfl : es = es' := by rw [hD] at hD'; simpa using hD'
    subst hD
    refine List.pairwise_map.2 (hpw.imp_of_mem fun {p q} hp' hq' hne e => hne ?_)
    obtain ⟨v1, h1⟩ := hko p hp'
    obtain ⟨v2, h2⟩ := hko q hq'
    obtain ⟨x1, _, e1, _⟩ := Maps.keyOf_i64 Try.underlying3 h1
    obtain ⟨x2, _, e2, _⟩ := Maps.keyOf_i64 Try.underlying3 h2
    rw [e1, e2] at e ⊢
    exact congrArg _ e
  have hp2 : (ss.mergeSort (fun x y => decide (x ≤ y))).Perm (intKeys D0) := (List.mergeSort_perm ss _).trans hperm
  have hpw : (ss.mergeSort (fun x y => decide (x ≤ y))).Pairwise (fun a b => decide (a ≤ b) = true) :=
    List.pairwise_mergeSort (fun a b c h1 h2 => by simp only [decide_eq_true_eq] at *; omega) (fun a b => by simp only [Bool.or_eq_true, decide_eq_true_eq]; omega) ss
  refine ⟨v, ss.mergeSort (fun x y => decide (x ≤ y)), rfl, fun x => by rw [hp2.mem_iff]; exact hkeys x, ?_, ?_, ?_⟩
  · refine (hpw.and (hp2.nodup_iff.2 hnd)).imp fun {a b} ⟨h1, h2⟩ => ?_
    simp only [decide_eq_true_eq] at h1
    omega
  · have hl : (ss.mergeSort (fun x y => decide (x ≤ y))).length = ss.length := (List.mergeSort_perm ss _).length_eq
    rw [hl]
    exact (OwnS.of_row hrow).mono (by simp)
  · exact ((Below.refl _ w).alloc (Nat.le_refl _) _).trans (hb.mono (by simp))
end Go.Proofs.Ytmnkgcnhmkggkaa
