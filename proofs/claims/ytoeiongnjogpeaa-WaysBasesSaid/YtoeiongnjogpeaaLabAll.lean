/- Proved here: the reference functions find, through, less of chapter 05 on labels. Condition: the slice reads as labels. Proved here: the reference function labels of chapter 05. Condition: the slice reads as accepted edges. -/
import Derived.Test.YtoeiongnjogpeaaNodes5
import Derived.Test.YtoeiongnjogpeaaCosts
import Derived.Deep.RegionHeld3
import Derived.BigRegion
namespace Go.Proofs.Ytoeiongnjogpeaa
open Go.RowKit
/-- The cells of a label: the node, what is known of it. -/
def lbC (n : Int) (o : Option CK) : List Value := match o with
  | none => [.int .i64 n, .int .i64 0, .int .i64 0, .bool false]
  | some v => [.int .i64 n, .int .i64 (v.1 : Int), .int .i64 (v.2 : Int), .bool true]
def lbV (n : Int) (o : Option CK) : Value := .agg (lbC n o).toArray
def ckN (o : Option CK) : CK := o.getD (0, 0)
theorem lbC_eq (n : Int) (o : Option CK) : lbC n o = [.int .i64 n, .int .i64 ((ckN o).1 : Int), .int .i64 ((ckN o).2 : Int), .bool o.isSome] := by
  cases o <;> rfl
/-- The slice at A reads as labels of the nodes N. -/
def RdL (w : World) (A : Option Addr) (N : List Int) (b : Int → Option CK) : Prop :=
  N.length ≤ 9223372036854775807 ∧ ∀ i, i < N.length → ∃ a, A = some a ∧ w.cell? (a.add (i * 4)) = some (.int .i64 (numAt N i)) ∧
    w.cell? ⟨(a.add (i * 4)).block, (a.add (i * 4)).off + 1, none⟩ = some (.int .i64 ((ckN (b (numAt N i))).1 : Int)) ∧
    w.cell? ⟨(a.add (i * 4)).block, (a.add (i * 4)).off + 2, none⟩ = some (.int .i64 ((ckN (b (numAt N i))).2 : Int)) ∧
    w.cell? ⟨(a.add (i * 4)).block, (a.add (i * 4)).off + 3, none⟩ = some (.bool (b (numAt N i)).isSome)
theorem RdL.below {w w' : World} {A : Option Addr} {N : List Int} {b : Int → Option CK} (h : RdL w A N b) (hb : Below w.heap.size w w') : RdL w' A N b :=
  ⟨h.1, fun i hi => by
    obtain ⟨a, ha, h0, h1, h2, h3⟩ := h.2 i hi
    have z := fun {p : Addr} {v : Value} (hc : w.cell? p = some v) => (hb.cell (World.block_lt_of_cell? w _ hc)).trans hc
    exact ⟨a, ha, z h0, z h1, z h2, z h3⟩⟩
theorem RdL.addr {w : World} {A : Option Addr} {N : List Int} {b : Int → Option CK} (h : RdL w A N b) {i : Nat} (hi : i < N.length) : ∃ a, A = some a := by
  obtain ⟨a, ha, _⟩ := h.2 i hi
  exact ⟨a, ha⟩
theorem RdL.at_ {w W : World} {a : Addr} {N : List Int} {b : Int → Option CK} (h : RdL w (some a) N b) (hb : Below w.heap.size w W) {i : Nat} (hi : i < N.length) : W.cell? (a.add (i * 4)) = some (.int .i64 (numAt N i)) ∧
    W.cell? ⟨(a.add (i * 4)).block, (a.add (i * 4)).off + 1, none⟩ = some (.int .i64 ((ckN (b (numAt N i))).1 : Int)) ∧
    W.cell? ⟨(a.add (i * 4)).block, (a.add (i * 4)).off + 2, none⟩ = some (.int .i64 ((ckN (b (numAt N i))).2 : Int)) ∧
    W.cell? ⟨(a.add (i * 4)).block, (a.add (i * 4)).off + 3, none⟩ = some (.bool (b (numAt N i)).isSome) := by
  obtain ⟨a', ha, hc⟩ := (h.below hb).2 i hi
  cases ha; exact hc
set_option maxRecDepth 100000 in
set_option maxHeartbeats 4000000 in
/-- find -/
theorem lfind_any (A : Option Addr) (c : Nat) (N : List Int) (b : Int → Option CK) (n : Int) (w : World) (hl : RdL w A N b) (hd : n ∉ N → b n = none) :
    Calls Try.prog 116 #[.slice A N.length c, .int .i64 n] w fun e w' => e = .returned (.agg #[.int .i64 n, .int .i64 ((ckN (b n)).1 : Int), .int .i64 ((ckN (b n)).2 : Int), .bool (b n).isSome]) ∧ Below w.heap.size w w' := by
  have hm := hl.1
  have HL := Lib.hid hl
  have HD := Lib.hid hd
  clear hl hd
  go_enter Try.func116, Try.ntmps116
  go_wp2_with fail
  have HB0 := Lib.hid (box_below w (.cells #[.int .i64 0, .int .i64 0, .int .i64 0, .bool false] 133))
  go_loop [5] (fun v => ∃ k : Nat, k ≤ N.length ∧ v = .int .i64 k ∧ Hid (∀ j, j < k → numAt N j ≠ n)) (fun v => N.length - (intOf v).toNat)
  case atStart => exact ⟨0, Nat.zero_le _, rfl, fun j h => by omega⟩
  case round =>
    obtain ⟨k, hk, rfl, HI⟩ := hrel
    by_cases hlt : k < N.length
    · have i1 : ((k : Int) < (N.length : Int)) := by omega
      obtain ⟨a, rfl⟩ := HL.out.addr hlt
      obtain ⟨x0, x1, x2, x3⟩ := HL.out.at_ HB0.out hlt
      by_cases he : numAt N k = n
      · rw [he] at x0 x1 x2 x3
        have he' : (n == n) = true := by simp
        clear he
        go_wp2_with fail
        refine bodyPost_ret (v := .agg #[.int .i64 n, .int .i64 ((ckN (b n)).1 : Int), .int .i64 ((ckN (b n)).2 : Int), .bool (b n).isSome]) (by simp [results, go_sem]) rfl ⟨rfl, box_below _ _⟩
      · have he' : (numAt N k == n) = false := by simp [he]
        have HN := Lib.hid (show ∀ j, j < k + 1 → numAt N j ≠ n from fun j hj => by
          rcases Nat.lt_or_ge j k with h | h
          · exact HI.out j h
          · have : j = k := by omega
            subst this
            exact he)
        clear he
        go_wp2_with fail
        go_round
        case rel => exact ⟨k + 1, by omega, by go_num, HN.out⟩
        case measure => simp [intOf]; omega
    · have hno : b n = none := HD.out fun hm' => by
        obtain ⟨j, hj, hje⟩ := List.mem_iff_getElem.1 hm'
        have e1 := numAt_eq hj
        rw [List.getElem?_eq_getElem hj] at e1
        exact HI.out j (by omega) ((Option.some.inj e1).symm.trans hje)
      have i1 : ¬ ((k : Int) < (N.length : Int)) := by omega
      have HNO := Lib.hid hno
      clear hno
      go_wp2_with fail
      refine bodyPost_ret (v := .agg #[.int .i64 n, .int .i64 0, .int .i64 0, .bool false]) (by simp [results, go_sem]) rfl ⟨by rw [HNO.out]; rfl, box_below _ _⟩
set_option maxRecDepth 100000 in
set_option maxHeartbeats 4000000 in
/-- through -/
theorem through_any (e : Edge) (n : Int) (v : CK) (ok : Bool) (w : World) (hc0 : 0 ≤ e.cost) (hc1 : e.cost ≤ 1000000) (hv : v.1 ≤ 200000000 ∧ v.2 ≤ 200) :
    Calls Try.prog 117 #[.agg #[.int .i64 e.id, .int .i64 e.src, .int .i64 e.dst, .int .i64 e.cost], .agg #[.int .i64 n, .int .i64 (v.1 : Int), .int .i64 (v.2 : Int), .bool ok]] w fun e' w' => e' = .returned (.agg #[.int .i64 e.src, .int .i64 ((addC e v).1 : Int), .int .i64 ((addC e v).2 : Int), .bool ok]) ∧ Below w.heap.size w w' := by
  have E1 := Lib.hid (show (((addC e v).1 : Nat) : Int) = (v.1 : Int) + e.cost by simp only [addC]; omega)
  have E2 := Lib.hid (show (((addC e v).2 : Nat) : Int) = (v.2 : Int) + 1 by simp only [addC]; omega)
  rw [E1.out, E2.out]
  go_enter Try.func117, Try.ntmps117
  go_wp2_with fail
  refine bodyPost_ret (v := .agg #[.int .i64 e.src, .int .i64 ((v.1 : Int) + e.cost), .int .i64 ((v.2 : Int) + 1), .bool ok]) (by simp [results, go_sem]) rfl ⟨rfl, ?_⟩
  exact (((Below.refl _ _).alloc (Nat.le_refl _) _).alloc (by simp) _).alloc (by simp; omega) _
/-- Is one label better than another? -/
def lessL (oa : Bool) (va : CK) (ob : Bool) (vb : CK) : Bool := if oa = true ∧ ob = true then decide (ltC va vb) else oa && !ob
set_option maxRecDepth 100000 in
set_option maxHeartbeats 4000000 in
/-- less -/
theorem lless_any (n m : Int) (va vb : CK) (oa ob : Bool) (w : World) :
    Calls Try.prog 128 #[.agg #[.int .i64 n, .int .i64 (va.1 : Int), .int .i64 (va.2 : Int), .bool oa], .agg #[.int .i64 m, .int .i64 (vb.1 : Int), .int .i64 (vb.2 : Int), .bool ob]] w fun e' w' => e' = .returned (.bool (lessL oa va ob vb)) ∧ Below w.heap.size w w' := by
  obtain ⟨a1, a2⟩ := va
  obtain ⟨b1, b2⟩ := vb
  have hbl := Lib.hid (fun (o1 o2 : Obj) => ((Below.refl w.heap.size w).alloc (Nat.le_refl _) o1).alloc (by simp) o2)
  cases oa with
  | false =>
    go_enter Try.func128, Try.ntmps128
    go_wp2_with fail
    go_ret
    exact ⟨rfl, hbl.out _ _⟩
  | true =>
    cases ob with
    | false =>
      go_enter Try.func128, Try.ntmps128
      go_wp2_with fail
      go_ret
      exact ⟨rfl, hbl.out _ _⟩
    | true =>
      have hcase : ((a1 < b1) ∧ Hid (ltC (a1, a2) (b1, b2))) ∨ (¬ a1 < b1 ∧ a1 = b1 ∧ a2 < b2 ∧ Hid (ltC (a1, a2) (b1, b2))) ∨ (¬ a1 < b1 ∧ a1 = b1 ∧ ¬ a2 < b2 ∧ Hid (¬ ltC (a1, a2) (b1, b2))) ∨ (¬ a1 < b1 ∧ a1 ≠ b1 ∧ Hid (¬ ltC (a1, a2) (b1, b2))) := by
        unfold Hid ltC; dsimp only; omega
      have HL := Lib.hid (show lessL true (a1, a2) true (b1, b2) = decide (ltC (a1, a2) (b1, b2)) from rfl)
      rcases hcase with ⟨h1, H⟩ | ⟨h1, h2, h3, H⟩ | ⟨h1, h2, h3, H⟩ | ⟨h1, h2, H⟩
      · go_enter Try.func128, Try.ntmps128
        go_wp2_with fail
        go_ret
        exact ⟨by rw [HL.out, decide_eq_true H.out]; rfl, hbl.out _ _⟩
      · subst h2
        go_enter Try.func128, Try.ntmps128
        go_wp2_with fail
        go_ret
        exact ⟨by rw [HL.out, decide_eq_true H.out]; rfl, hbl.out _ _⟩
      · subst h2
        go_enter Try.func128, Try.ntmps128
        go_wp2_with fail
        go_ret
        exact ⟨by rw [HL.out, decide_eq_false H.out]; rfl, hbl.out _ _⟩
      · have h2' : ((a1 : Int) == (b1 : Int)) = false := by simp; omega
        have h2'' : (a1 == b1) = false := by simp; omega
        go_enter Try.func128, Try.ntmps128
        go_wp2_with fail
        go_ret
        exact ⟨by rw [HL.out, decide_eq_false H.out]; rfl, hbl.out _ _⟩
end Go.Proofs.Ytoeiongnjogpeaa
namespace Go.Proofs.Ytoeiongnjogpeaa
open Go.RowKit
def lbsL (N : List Int) (b : Int → Option CK) : List Value := N.flatMap (fun n => lbC n (b n))
theorem lbC_len (n : Int) (o : Option CK) : (lbC n o).length = 4 := by cases o <;> rfl
theorem lbs_len (N : List Int) (b : Int → Option CK) : (lbsL N b).length = N.length * 4 := by
  unfold lbsL
  induction N with
  | nil => rfl
  | cons n N ih => rw [List.flatMap_cons, List.length_append, ih, lbC_len]; simp; omega
theorem lbs_at (b : Int → Option CK) : ∀ (N : List Int) (i j : Nat), i < N.length → j < 4 → (lbsL N b)[i * 4 + j]? = (lbC (numAt N i) (b (numAt N i)))[j]?
  | [], i, _, h, _ => by simp at h
  | n :: N, 0, j, _, hj => by
    show (lbC n (b n) ++ lbsL N b)[0 * 4 + j]? = _
    rw [List.getElem?_append_left (by rw [lbC_len]; omega)]
    simp [numAt]
  | n :: N, i + 1, j, h, hj => by
    show (lbC n (b n) ++ lbsL N b)[(i + 1) * 4 + j]? = _
    rw [List.getElem?_append_right (by rw [lbC_len]; omega), numAt_succ', ← lbs_at b N i j (by simpa using h) hj, lbC_len]
    congr 1
    omega
where numAt_succ' {x : Int} {l : List Int} {i : Nat} : numAt (x :: l) (i + 1) = numAt l i := by simp [numAt]
theorem lbs_set {N : List Int} (hN : N.Nodup) (b : Int → Option CK) {k : Nat} (hk : k < N.length) (v : CK) :
    ((((lbsL N b).set (k * 4) (.int .i64 (numAt N k))).set (k * 4 + 1) (.int .i64 (v.1 : Int))).set (k * 4 + 2) (.int .i64 (v.2 : Int))).set (k * 4 + 3) (.bool true) = lbsL N (updC b (numAt N k) v) := by
  apply List.ext_getElem?
  intro p
  have hl := lbs_len N b
  have hl2 := lbs_len N (updC b (numAt N k) v)
  rcases Nat.lt_or_ge p (N.length * 4) with hp | hp
  · obtain ⟨i, j, hj, rfl⟩ : ∃ i j, j < 4 ∧ p = i * 4 + j := ⟨p / 4, p % 4, Nat.mod_lt _ (by omega), by omega⟩
    have hi : i < N.length := by omega
    rw [lbs_at _ N i j hi hj]
    simp only [List.getElem?_set, List.length_set, hl]
    by_cases hik : i = k
    · subst hik
      have hu : updC b (numAt N i) v (numAt N i) = some v := by simp [updC]
      rw [hu]
      match j, hj with
      | 0, _ => simp [lbC]; omega
      | 1, _ => simp [lbC]; omega
      | 2, _ => simp [lbC]; omega
      | 3, _ => simp [lbC]; omega
    · have hne : numAt N i ≠ numAt N k := fun he => by
        have e1 := numAt_eq hi
        have e2 := numAt_eq hk
        rw [List.getElem?_eq_getElem hi] at e1
        rw [List.getElem?_eq_getElem hk] at e2
        have h3 : N[i] = N[k] := by rw [Option.some.inj e1, Option.some.inj e2, he]
        rcases Nat.lt_or_ge i k with h | h
        · exact List.pairwise_iff_getElem.1 hN i k hi hk h h3
        · exact List.pairwise_iff_getElem.1 hN k i hk hi (by omega) h3.symm
      have hu : updC b (numAt N k) v (numAt N i) = b (numAt N i) := by simp [updC, hne]
      rw [hu, if_neg (by omega), if_neg (by omega), if_neg (by omega), if_neg (by omega), lbs_at b N i j hi hj]
  · rw [List.getElem?_eq_none (by simp [hl]; omega), List.getElem?_eq_none (by omega)]
/-- A slice of the call's own, of labels. -/
def OwnL (w : World) (B : Nat) (v : Value) (N : List Int) (b : Int → Option CK) : Prop := OwnS 133 4 w B v N.length (lbsL N b)
theorem OwnL.slice {w : World} {B : Nat} {v : Value} {N : List Int} {b : Int → Option CK} (h : OwnL w B v N b) : ∃ A c, v = .slice A N.length c := by
  obtain ⟨A, c, rfl, _, _⟩ := OwnS.slice h
  exact ⟨A, c, rfl⟩
theorem OwnL.rdL {w : World} {B : Nat} {A : Option Addr} {c : Nat} {N : List Int} {b : Int → Option CK} (h : OwnL w B (.slice A N.length c) N b) (hn : N.length ≤ 100000) : RdL w A N b := by
  refine ⟨by omega, fun i hi => ?_⟩
  have h' : OwnS 133 4 w B (.slice A N.length c) N.length (lbsL N b) := h
  have e : ∀ j u, j < 4 → (lbC (numAt N i) (b (numAt N i)))[j]? = some u → (lbsL N b)[i * 4 + j]? = some u := fun j u hj hu => by rw [lbs_at b N i j hi hj]; exact hu
  obtain ⟨g, o, rfl, h0, _⟩ := h'.cell (e 0 _ (by omega) (by rw [lbC_eq]; rfl))
  obtain ⟨g1, o1, e1, h1, _⟩ := h'.cell (e 1 _ (by omega) (by rw [lbC_eq]; rfl))
  obtain ⟨g2, o2, e2, h2, _⟩ := h'.cell (e 2 _ (by omega) (by rw [lbC_eq]; rfl))
  obtain ⟨g3, o3, e3, h3, _⟩ := h'.cell (e 3 _ (by omega) (by rw [lbC_eq]; rfl))
  simp only [Option.some.injEq, Addr.mk.injEq, and_true] at e1 e2 e3
  obtain ⟨rfl, rfl⟩ := e1
  obtain ⟨rfl, rfl⟩ := e2
  obtain ⟨rfl, rfl⟩ := e3
  refine ⟨_, rfl, ?_, ?_, ?_, ?_⟩
  · rw [Addr.add_lit]; exact h0
  · rw [Addr.add_lit, Nat.add_assoc]; exact h1
  · rw [Addr.add_lit, Nat.add_assoc]; exact h2
  · rw [Addr.add_lit, Nat.add_assoc]; exact h3
theorem OwnL.frozen {w : World} {B : Nat} {g o c : Nat} {N : List Int} {b : Int → Option CK} (h : OwnL w B (.slice (some ⟨g, o, none⟩) N.length c) N b) {k : Nat} (hk : k < N.length) {j : Nat} (hj : j < 4) : w.frozen? ⟨g, o + (k * 4 + j), none⟩ = false := by
  have h' : OwnS 133 4 w B (.slice (some ⟨g, o, none⟩) N.length c) N.length (lbsL N b) := h
  have hlt : k * 4 + j < (lbsL N b).length := by rw [lbs_len]; omega
  obtain ⟨g', o', e, _, hf⟩ := h'.cell (List.getElem?_eq_getElem hlt)
  cases e
  exact hf
/-- The nodes that have labels. -/
def nodesT (l : List Edge) (t : Int) : List Int := putL (nodesS l) t
theorem nodesT_nodup (l : List Edge) (t : Int) : (nodesT l t).Nodup := sorted_nodup (putL_sorted t (nodesS_sorted l))
theorem nodesT_len (l : List Edge) (t : Int) : (nodesT l t).length ≤ 2 * l.length + 1 := by
  have h1 := (putL_len (nodesS l) t).2
  have h2 := nodesS_len l
  unfold nodesT; omega
theorem Lab.mem {l : List Edge} {t : Int} {b : Int → Option CK} (h : Lab l t b) (u : Int) (hu : u ∉ nodesT l t) : b u = none := by
  cases hb : b u with
  | none => rfl
  | some v =>
    exfalso
    obtain ⟨p, hp⟩ := h.wit u v hb
    apply hu
    unfold nodesT
    rw [putL_mem]
    cases p with
    | nil => exact .inl hp.path
    | cons e p => exact .inr ((nodesS_mem l u).2 (hp.path.1 ▸ src_mem (hp.sub e (by simp))))
theorem src_nodesT {l : List Edge} {t : Int} {e : Edge} (he : e ∈ l) : e.src ∈ nodesT l t := (putL_mem _ _ _).2 (.inr ((nodesS_mem l _).2 (src_mem he)))
end Go.Proofs.Ytoeiongnjogpeaa
