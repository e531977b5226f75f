/- Proved here: plain words on nodes in order and on loops. -/
import Derived.Test.YtmnkgcnhmkggkaaWalk5
import Derived.Test.YtmnkgcnhmkggkaaROrder
namespace Go.Proofs.Ytmnkgcnhmkggkaa
open Go.RowKit
def idxN : List Int → Int → Nat
  | [], _ => 0
  | x :: xs, n => if x = n then 0 else idxN xs n + 1
theorem idxN_lt : ∀ {l : List Int} {n : Int}, n ∈ l → idxN l n < l.length
  | [], n, h => by simp at h
  | x :: xs, n, h => by
    unfold idxN
    split
    · simp
    · rename_i hx
      have := idxN_lt (l := xs) (n := n) ((List.mem_cons.1 h).resolve_left (fun e => hx e.symm))
      simp; omega
theorem numAt_succ (x : Int) (l : List Int) (i : Nat) : numAt (x :: l) (i + 1) = numAt l i := by simp [numAt]
theorem idxN_at : ∀ {l : List Int} {n : Int} {k : Nat}, k < l.length → numAt l k = n → (∀ j, j < k → numAt l j ≠ n) → idxN l n = k
  | [], n, k, h, _, _ => by simp at h
  | x :: xs, n, 0, _, h, _ => by
    have : x = n := by simpa [numAt] using h
    simp [idxN, this]
  | x :: xs, n, k + 1, hk, h, hno => by
    have h0 : x ≠ n := by simpa [numAt] using hno 0 (by omega)
    unfold idxN
    rw [if_neg h0, idxN_at (by simpa using hk) (by rw [numAt_succ] at h; exact h) (fun j hj => by have := hno (j + 1) (by omega); rwa [numAt_succ] at this)]
theorem idxN_left : ∀ {a : List Int} (b : List Int) {n : Int}, n ∈ a → idxN (a ++ b) n = idxN a n
  | [], _, n, h => by simp at h
  | x :: xs, b, n, h => by
    show (if x = n then 0 else idxN (xs ++ b) n + 1) = (if x = n then 0 else idxN xs n + 1)
    split
    · rfl
    · rename_i hx
      rw [idxN_left b ((List.mem_cons.1 h).resolve_left (fun e => hx e.symm))]
theorem idxN_new : ∀ {a : List Int} {n : Int}, n ∉ a → idxN (a ++ [n]) n = a.length
  | [], n, _ => by simp [idxN]
  | x :: xs, n, h => by
    have hx : x ≠ n := fun e => h (by simp [e])
    show (if x = n then 0 else idxN (xs ++ [n]) n + 1) = _
    rw [if_neg hx, idxN_new (fun hm => h (by simp [hm]))]
    rfl
theorem idxN_nodup {l : List Int} (h : l.Nodup) {k : Nat} (hk : k < l.length) : idxN l (numAt l k) = k :=
  idxN_at hk rfl fun j hj he => by
    have h1 := List.pairwise_iff_getElem.1 h j k (by omega) hk hj
    have e1 := numAt_eq (l := l) (k := j) (by omega)
    have e2 := numAt_eq hk
    rw [List.getElem?_eq_getElem (by omega)] at e1 e2
    exact h1 (by rw [Option.some.inj e1, Option.some.inj e2, he])
def placeV (l : List Int) (n : Int) : Int := if n ∈ l then (idxN l n : Int) else -1
/-- Each edge leads from an earlier node to a later one. -/
def Asc (l : List Edge) (out : List Int) : Prop := ∀ e ∈ l, e.dst ∈ out → idxN out e.src < idxN out e.dst
theorem Asc.snoc {l : List Edge} {out : List Int} {n : Int} (hi : OInv l out) (h : Asc l out) (hn : IsNext l out n) : Asc l (out ++ [n]) := by
  obtain ⟨f1, f2⟩ := freeB_iff.1 hn.free
  intro e he hd
  rcases List.mem_append.1 hd with hd | hd
  · rw [idxN_left _ hd, idxN_left _ (hi.shut e he hd)]
    exact h e he hd
  · simp at hd
    have hs := f2 e he hd
    rw [idxN_left _ hs, hd, idxN_new f1]
    exact idxN_lt hs
theorem next_ex {l : List Edge} {out : List Int} {n : Int} (h : nextF l out = some n) : IsNext l out n := by
  unfold nextF at h
  obtain ⟨a, b⟩ := minL_some h
  rw [List.mem_filter] at a
  exact ⟨a.1, a.2, fun m hm hf => b m (List.mem_filter.2 ⟨hm, hf⟩)⟩
theorem next_non {l : List Edge} {out : List Int} (h : nextF l out = none) : ∀ m ∈ nodesL l, freeB l out m = false := by
  unfold nextF at h
  have := minL_none h
  rw [List.filter_eq_nil_iff] at this
  exact fun m hm => by simpa using this m hm
/-- How the placing ends. -/
theorem order_end {l : List Edge} : ∀ (f : Nat) (out : List Int), OInv l out → Asc l out → (nodesL l).length < f + out.length →
    (∃ o, orderL l = (o, 0) ∧ OInv l o ∧ Asc l o ∧ ∀ n ∈ nodesL l, n ∈ o) ∨ (orderL l = ([], 16) ∧ ∃ o, (∃ n ∈ nodesL l, n ∉ o) ∧ ∀ m ∈ nodesL l, freeB l o m = false)
  | 0, out, hi, _, hf => by have := hi.len; omega
  | f + 1, out, hi, ha, hf => by
    cases hn : nextF l out with
    | some n =>
      have hx := next_ex hn
      exact order_end f (out ++ [n]) (hi.snoc hx) (ha.snoc hi hx) (by simp; omega)
    | none =>
      have hno := next_non hn
      by_cases hall : ∀ n ∈ nodesL l, n ∈ out
      · exact .inl ⟨out, hi.done hall, hi, ha, hall⟩
      · have hex : ∃ n ∈ nodesL l, n ∉ out := Classical.byContradiction fun h => hall fun n hn => Classical.byContradiction fun h2 => h ⟨n, hn, h2⟩
        obtain ⟨n, h1, h2⟩ := hex
        exact .inr ⟨hi.stuck n h1 h2 hno, out, ⟨n, h1, h2⟩, hno⟩
def LoopE (l : List Edge) (e : Edge) : Prop := ∃ v, Walk l e.src e.dst v
theorem Walk.trans {l : List Edge} {a b c : Int} {v : CK} (h : Walk l b a v) : ∀ {x : CK}, Walk l c b x → ∃ y, Walk l c a y := by
  induction h with
  | nil => exact fun hx => ⟨_, hx⟩
  | cons e v he _ ih =>
    intro x hx
    obtain ⟨y, hy⟩ := ih hx
    exact ⟨_, Walk.cons e y he hy⟩
noncomputable def ancN (l : List Edge) (n : Int) : Nat := ((nodesL l).filter (fun m => @decide (∃ v, Walk l n m v) (Classical.propDecidable _))).length
theorem filter_lt {α : Type} {p q : α → Bool} : ∀ {l : List α}, (∀ x ∈ l, p x = true → q x = true) → (∃ x ∈ l, q x = true ∧ p x = false) → (l.filter p).length < (l.filter q).length
  | [], _, h => by obtain ⟨x, hx, _⟩ := h; simp at hx
  | a :: l, hsub, hex => by
    have hle : (l.filter p).length ≤ (l.filter q).length := by
      clear hex
      induction l with
      | nil => simp
      | cons b l ih =>
        have := ih (fun x hx => hsub x (by rcases List.mem_cons.1 hx with rfl | hx <;> simp [*]))
        have hb := hsub b (by simp)
        rw [List.filter_cons, List.filter_cons]
        cases hp : p b <;> cases hq : q b <;> simp <;> first | omega | (rw [hb hp] at hq; cases hq)
    rw [List.filter_cons, List.filter_cons]
    obtain ⟨x, hx, hqx, hpx⟩ := hex
    rcases List.mem_cons.1 hx with rfl | hx
    · rw [hqx, hpx]; simp; omega
    · have ih := filter_lt (l := l) (fun y hy => hsub y (by simp [hy])) ⟨x, hx, hqx, hpx⟩
      have ha := hsub a (by simp)
      cases hp : p a <;> cases hq : q a <;> simp <;> first | omega | (rw [ha hp] at hq; cases hq)
/-- Where nothing is free there is a loop. -/
theorem stuck_loop {l : List Edge} {o : List Int} (hex : ∃ n ∈ nodesL l, n ∉ o) (hno : ∀ m ∈ nodesL l, freeB l o m = false) : ∃ e ∈ l, LoopE l e := by
  refine Classical.byContradiction fun hnl => ?_
  have main : ∀ (k : Nat) (n : Int), n ∈ nodesL l → n ∉ o → ancN l n < k → False := by
    intro k
    induction k with
    | zero => intro n _ _ h; omega
    | succ k ih =>
      intro n hn hno' hk
      have hf := hno n hn
      have hpre : ∃ e ∈ l, e.dst = n ∧ e.src ∉ o := Classical.byContradiction fun h => by
        have : freeB l o n = true := freeB_iff.2 ⟨hno', fun e he hd => Classical.byContradiction fun hs => h ⟨e, he, hd, hs⟩⟩
        rw [hf] at this; cases this
      obtain ⟨e, he, rfl, hs⟩ := hpre
      refine ih e.src (src_mem he) hs ?_
      have : ancN l e.src < ancN l e.dst := by
        unfold ancN
        refine filter_lt (fun m _ hm => ?_) ⟨e.dst, hn, ?_, ?_⟩
        · simp only [decide_eq_true_eq] at hm ⊢
          obtain ⟨v, hv⟩ := hm
          have hee : Walk l e.dst e.src (addC e (0, 0)) := Walk.cons e _ he Walk.nil
          exact hv.trans hee
        · simp only [decide_eq_true_eq]
          exact ⟨_, Walk.nil⟩
        · simp only [decide_eq_false_iff_not]
          exact fun hv => hnl ⟨e, he, hv⟩
      omega
  obtain ⟨n, hn, hn'⟩ := hex
  exact main _ n hn hn' (Nat.lt_succ_self _)
/-- Where all are placed there is no loop. -/
theorem asc_noloop {l : List Edge} {o : List Int} (ha : Asc l o) (hall : ∀ n ∈ nodesL l, n ∈ o) : ∀ e ∈ l, ¬ LoopE l e := by
  intro e he ⟨v, hv⟩
  have key : ∀ {t u : Int} {v : CK}, Walk l t u v → idxN o u ≤ idxN o t := by
    intro t u v hw
    induction hw with
    | nil => exact Nat.le_refl _
    | cons e v he _ ih =>
      have := ha e he (hall _ (dst_mem he))
      omega
  have h1 := key hv
  have h2 := ha e he (hall _ (dst_mem he))
  omega
end Go.Proofs.Ytmnkgcnhmkggkaa
