/- Proved here: the reference function labels of chapter 05. Condition: the slice reads as accepted edges. -/
import Derived.Test.YtmnkgcnhmkggkaaLab5
import Derived.Deep.RegionHeld3
import Derived.BigRegion
namespace Go.Proofs.Ytmnkgcnhmkggkaa
open Go.RowKit
def lbsL (N : List Int) (b : Int → Option CK) : List Value := N.flatMap (fun n => lbC n (b n))
theorem lbC_len (n : Int) (o : Option CK) : (lbC n o).length = 4 := by cases o <;> rfl
theorem lbs_len (N : List Int) (b : Int → Option CK) : (lbsL N b).length = N.length * 4 := by
  unfold lbsL
  induction N with
  | nil => rfl
  | cons n N ih => rw [List.flatMap_cons, List.length_append, ih, lbC_len]; simp; omega
theorem lbs_at (b : Int → Option CK) : ∀ (N : List Int) (i j : Nat), i < N.length → j < 4 → (lbsL N b)[i * 4 + j]? = (lbC (numAt N i) (b (numAt N i)))[j]?
  | [], i, _, h, _ => by simp at h
  | n :: N, 0, j, _, hj => by
    show (lbC n (b n) ++ lbsL N b)[0 * 4 + j]? = _
    rw [List.getElem?_append_left (by rw [lbC_len]; omega)]
    simp [numAt]
  | n :: N, i + 1, j, h, hj => by
    show (lbC n (b n) ++ lbsL N b)[(i + 1) * 4 + j]? = _
    rw [List.getElem?_append_right (by rw [lbC_len]; omega), numAt_succ', ← lbs_at b N i j (by simpa using h) hj, lbC_len]
    congr 1
    omega
where numAt_succ' {x : Int} {l : List Int} {i : Nat} : numAt (x :: l) (i + 1) = numAt l i := by simp [numAt]
theorem lbs_set {N : List Int} (hN : N.Nodup) (b : Int → Option CK) {k : Nat} (hk : k < N.length) (v : CK) :
    ((((lbsL N b).set (k * 4) (.int .i64 (numAt N k))).set (k * 4 + 1) (.int .i64 (v.1 : Int))).set (k * 4 + 2) (.int .i64 (v.2 : Int))).set (k * 4 + 3) (.bool true) = lbsL N (updC b (numAt N k) v) := by
  apply List.ext_getElem?
  intro p
  have hl := lbs_len N b
  have hl2 := lbs_len N (updC b (numAt N k) v)
  rcases Nat.lt_or_ge p (N.length * 4) with hp | hp
  · obtain ⟨i, j, hj, rfl⟩ : ∃ i j, j < 4 ∧ p = i * 4 + j := ⟨p / 4, p % 4, Nat.mod_lt _ (by omega), by omega⟩
    have hi : i < N.length := by omega
    rw [lbs_at _ N i j hi hj]
    simp only [List.getElem?_set, List.length_set, hl]
    by_cases hik : i = k
    · subst hik
      have hu : updC b (numAt N i) v (numAt N i) = some v := by simp [updC]
      rw [hu]
      match j, hj with
      | 0, _ => simp [lbC]; omega
      | 1, _ => simp [lbC]; omega
      | 2, _ => simp [lbC]; omega
      | 3, _ => simp [lbC]; omega
    · have hne : numAt N i ≠ numAt N k := fun he => by
        have e1 := numAt_eq hi
        have e2 := numAt_eq hk
        rw [List.getElem?_eq_getElem hi] at e1
        rw [List.getElem?_eq_getElem hk] at e2
        have h3 : N[i] = N[k] := by rw [Option.some.inj e1, Option.some.inj e2, he]
        rcases Nat.lt_or_ge i k with h | h
        · exact List.pairwise_iff_getElem.1 hN i k hi hk h h3
        · exact List.pairwise_iff_getElem.1 hN k i hk hi (by omega) h3.symm
      have hu : updC b (numAt N k) v (numAt N i) = b (numAt N i) := by simp [updC, hne]
      rw [hu, if_neg (by omega), if_neg (by omega), if_neg (by omega), if_neg (by omega), lbs_at b N i j hi hj]
  · rw [List.getElem?_eq_none (by simp [hl]; omega), List.getElem?_eq_none (by omega)]
/-- A slice of the call's own, of labels. -/
def OwnL (w : World) (B : Nat) (v : Value) (N : List Int) (b : Int → Option CK) : Prop := OwnS 70 4 w B v N.length (lbsL N b)
theorem OwnL.slice {w : World} {B : Nat} {v : Value} {N : List Int} {b : Int → Option CK} (h : OwnL w B v N b) : ∃ A c, v = .slice A N.length c := by
  obtain ⟨A, c, rfl, _, _⟩ := OwnS.slice h
  exact ⟨A, c, rfl⟩
theorem OwnL.rdL {w : World} {B : Nat} {A : Option Addr} {c : Nat} {N : List Int} {b : Int → Option CK} (h : OwnL w B (.slice A N.length c) N b) (hn : N.length ≤ 100000) : RdL w A N b := by
  refine ⟨by omega, fun i hi => ?_⟩
  have h' : OwnS 70 4 w B (.slice A N.length c) N.length (lbsL N b) := h
  have e : ∀ j u, j < 4 → (lbC (numAt N i) (b (numAt N i)))[j]? = some u → (lbsL N b)[i * 4 + j]? = some u := fun j u hj hu => by rw [lbs_at b N i j hi hj]; exact hu
  obtain ⟨g, o, rfl, h0, _⟩ := h'.cell (e 0 _ (by omega) (by rw [lbC_eq]; rfl))
  obtain ⟨g1, o1, e1, h1, _⟩ := h'.cell (e 1 _ (by omega) (by rw [lbC_eq]; rfl))
  obtain ⟨g2, o2, e2, h2, _⟩ := h'.cell (e 2 _ (by omega) (by rw [lbC_eq]; rfl))
  obtain ⟨g3, o3, e3, h3, _⟩ := h'.cell (e 3 _ (by omega) (by rw [lbC_eq]; rfl))
  simp only [Option.some.injEq, Addr.mk.injEq, and_true] at e1 e2 e3
  obtain ⟨rfl, rfl⟩ := e1
  obtain ⟨rfl, rfl⟩ := e2
  obtain ⟨rfl, rfl⟩ := e3
  refine ⟨_, rfl, ?_, ?_, ?_, ?_⟩
  · rw [Addr.add_lit]; exact h0
  · rw [Addr.add_lit, Nat.add_assoc]; exact h1
  · rw [Addr.add_lit, Nat.add_assoc]; exact h2
  · rw [Addr.add_lit, Nat.add_assoc]; exact h3
theorem OwnL.frozen {w : World} {B : Nat} {g o c : Nat} {N : List Int} {b : Int → Option CK} (h : OwnL w B (.slice (some ⟨g, o, none⟩) N.length c) N b) {k : Nat} (hk : k < N.length) {j : Nat} (hj : j < 4) : w.frozen? ⟨g, o + (k * 4 + j), none⟩ = false := by
  have h' : OwnS 70 4 w B (.slice (some ⟨g, o, none⟩) N.length c) N.length (lbsL N b) := h
  have hlt : k * 4 + j < (lbsL N b).length := by rw [lbs_len]; omega
  obtain ⟨g', o', e, _, hf⟩ := h'.cell (List.getElem?_eq_getElem hlt)
  cases e
  exact hf
/-- The nodes that have labels. -/
def nodesT (l : List Edge) (t : Int) : List Int := putL (nodesS l) t
theorem nodesT_nodup (l : List Edge) (t : Int) : (nodesT l t).Nodup := sorted_nodup (putL_sorted t (nodesS_sorted l))
theorem nodesT_len (l : List Edge) (t : Int) : (nodesT l t).length ≤ 2 * l.length + 1 := by
  have h1 := (putL_len (nodesS l) t).2
  have h2 := nodesS_len l
  unfold nodesT; omega
theorem Lab.mem {l : List Edge} {t : Int} {b : Int → Option CK} (h : Lab l t b) (u : Int) (hu : u ∉ nodesT l t) : b u = none := by
  cases hb : b u with
  | none => rfl
  | some v =>
    exfalso
    obtain ⟨p, hp⟩ := h.wit u v hb
    apply hu
    unfold nodesT
    rw [putL_mem]
    cases p with
    | nil => exact .inl hp.path
    | cons e p => exact .inr ((nodesS_mem l u).2 (hp.path.1 ▸ src_mem (hp.sub e (by simp))))
theorem src_nodesT {l : List Edge} {t : Int} {e : Edge} (he : e ∈ l) : e.src ∈ nodesT l t := (putL_mem _ _ _).2 (.inr ((nodesS_mem l _).2 (src_mem he)))
end Go.Proofs.Ytmnkgcnhmkggkaa
