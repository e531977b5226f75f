/- Proved here: join of the package ways puts two lists of edges into one, numbered from 0 on. Condition: the lists read as edges. -/
import Derived.Test.YtoeiongnjogpeaaDownW
import Derived.Deep.DeepMust
namespace Go.Proofs.Ytoeiongnjogpeaa
open Go.RowKit
def numF : List Edge → Nat → List Edge
  | [], _ => []
  | e :: l, k => ⟨(k : Int), e.src, e.dst, e.cost⟩ :: numF l (k + 1)
theorem numF_append : ∀ (l m : List Edge) (k : Nat), numF (l ++ m) k = numF l k ++ numF m (k + l.length)
  | [], m, k => by simp [numF]
  | e :: l, m, k => by
    rw [List.cons_append, numF, numF, numF_append l m (k + 1), List.cons_append]
    simp only [List.length_cons]
    rw [show k + 1 + l.length = k + (l.length + 1) by omega]
theorem numF_len : ∀ (l : List Edge) (k : Nat), (numF l k).length = l.length
  | [], _ => rfl
  | e :: l, k => by simp [numF, numF_len l (k + 1)]
theorem numF_snoc (l : List Edge) (e : Edge) : numF (l ++ [e]) 0 = numF l 0 ++ [⟨(l.length : Int), e.src, e.dst, e.cost⟩] := by
  rw [numF_append]; simp [numF]
def preJ (l1 l2 : List Edge) (k : Nat) : List Edge := if k = 0 then [] else if k = 1 then l1 else l1 ++ l2
theorem wp_appEH {ops : Array Oper} {rest : List Oper} {o : Oper} {a : Act} {Q : Exit → Act → World → Prop}
    (hgd : o.guard = none) (s x : Operand) (hop : o.op = Op.call { callee := Callee.builtin Builtin.append, args := #[s, x], argTypes := #[78, 78] })
    (w0 w : World) (H : Nat) (hH : H = w.heap.size) (v : Value) (out : List Edge) (i p q c : Int) (y : Edge) (hy : y = ⟨i, p, q, c⟩) (hs : a.eval s = v) (hx : a.eval x = .slice (some ⟨H, 0, none⟩) 1 1)
    (h : OwnEd w w0.heap.size v out) (hlen : out.length ≤ 1000000) (hb : Below w0.heap.size w0 w)
    (hK : ∀ A' c' w', Hid (OwnEd w' w0.heap.size (.slice A' (out.length + 1) c') (out ++ [y])) → Hid (Below w0.heap.size w0 w') → wpList Try.prog ops Q rest (a.put o.dst (.slice A' (out.length + 1) c')) w') :
    wpList Try.prog ops Q (o :: rest) a (w.alloc (.cells #[.int .i64 i, .int .i64 p, .int .i64 q, .int .i64 c] 94)) := by
  subst hH
  exact wp_appE hgd s x hop w0 w v out i p q c y hy hs hx h hlen hb hK
set_option maxRecDepth 100000 in
set_option maxHeartbeats 4000000 in
theorem join_any (A B : Option Addr) (c d g cc : Nat) (l1 l2 : List Edge) (w : World) (hl1 : RdE w A l1) (hl2 : RdE w B l2) (h1000 : l1.length + l2.length ≤ 1000)
    (hc1 : w.cell? ⟨g, 0, none⟩ = some (.slice A l1.length c)) (hc2 : w.cell? ⟨g, 1, none⟩ = some (.slice B l2.length d)) :
    Calls Try.prog 68 #[.slice (some ⟨g, 0, none⟩) 2 cc] w fun e w' => ∃ A' c', e = .returned (.slice A' (numF (l1 ++ l2) 0).length c') ∧ RdE w' A' (numF (l1 ++ l2) 0) ∧ Below w.heap.size w w' := by
  have HA := Lib.hid hl1
  have HB2 := Lib.hid hl2
  have HC1 := Lib.hid hc1
  have HC2 := Lib.hid hc2
  clear hl1 hl2 hc1 hc2
  go_enter Try.func68, Try.ntmps68
  go_wp2_with fail
  go_loopw [3, 10] (fun ov i wr => ∃ k : Nat, k ≤ 2 ∧ i = .int .i64 k ∧ Hid (OwnEd wr w.heap.size ov (numF (preJ l1 l2 k) 0)) ∧ Hid (Below w.heap.size w wr)) (fun _ i _ => 2 - (intOf i).toNat)
  case atStart => exact ⟨0, Nat.zero_le _, rfl, OwnEd.nil _ _, Below.refl _ _⟩
  case round =>
    obtain ⟨k, hk, rfl, HO, HB⟩ := hrel
    obtain ⟨A1, c1, rfl⟩ := HO.out.slice
    by_cases hlt : k < 2
    · have i1 : ((k : Int) < 2) := by omega
      obtain ⟨X, cX, xs, pre, hcell, hrd, hpre, hnext, hlen⟩ : ∃ (X : Option Addr) (cX : Nat) (xs pre : List Edge), w.cell? ⟨g, k, none⟩ = some (.slice X xs.length cX) ∧ RdE w X xs ∧ preJ l1 l2 k = pre ∧ preJ l1 l2 (k + 1) = pre ++ xs ∧ pre.length + xs.length ≤ 1000 := by
        rcases (show k = 0 ∨ k = 1 by omega) with rfl | rfl
        · exact ⟨A, c, l1, [], HC1.out, HA.out, by simp [preJ], by simp [preJ], by simp; omega⟩
        · exact ⟨B, d, l2, l1, HC2.out, HB2.out, by simp [preJ], by simp [preJ], by omega⟩
      have y0 := (HB.out.cell (World.block_lt_of_cell? _ _ hcell)).trans hcell
      have HX := Lib.hid hrd
      have HN := Lib.hid hnext
      have hm := hrd.1
      rw [hpre] at HO ⊢
      have hadd : (⟨g, 0, none⟩ : Addr).add k = ⟨g, k, none⟩ := by rw [Addr.add_lit, Nat.zero_add]
      have HO1 : Hid (OwnEd wr w.heap.size (.slice A1 (numF pre 0).length c1) (numF (pre ++ xs.take 0) 0)) := by rw [List.take_zero, List.append_nil]; exact HO.out
      clear hcell hrd hnext hpre HO
      go_wp2_with fail
      go_loopw [3, 16] (fun ov i wr2 => ∃ q : Nat, q ≤ xs.length ∧ i = .int .i64 q ∧ Hid (OwnEd wr2 w.heap.size ov (numF (pre ++ xs.take q) 0)) ∧ Hid (Below w.heap.size w wr2)) (fun _ i _ => xs.length - (intOf i).toNat)
      case atStart => exact ⟨0, Nat.zero_le _, rfl, HO1.out, HB.out⟩
      case round =>
        clear y0 HO1 HB
        obtain ⟨q, hq, rfl, HO, HB⟩ := hrel
        obtain ⟨A2, c2, rfl⟩ := HO.out.slice
        by_cases hql : q < xs.length
        · have i2 : ((q : Int) < (xs.length : Int)) := by omega
          obtain ⟨a, rfl⟩ := HX.out.addr hql
          obtain ⟨x0, x1, x2, x3⟩ := HX.out.at_ HB.out hql
          have hle : (numF (pre ++ xs.take q) 0).length ≤ 1000 := by rw [numF_len, List.length_append, List.length_take]; omega
          have HNQ := Lib.hid (show numF (pre ++ xs.take (q + 1)) 0 = numF (pre ++ xs.take q) 0 ++ [⟨((numF (pre ++ xs.take q) 0).length : Int), (edAt xs q).src, (edAt xs q).dst, (edAt xs q).cost⟩] by
            rw [take_ed hql, ← List.append_assoc, numF_snoc, numF_len])
          obtain ⟨out, hout⟩ : ∃ out, out = numF (pre ++ xs.take q) 0 := ⟨_, rfl⟩
          rw [← hout] at HO HNQ hle ⊢
          obtain ⟨W0, hW0⟩ : ∃ W0, W0 = wr.alloc (.cells #[.int .i64 (out.length : Int), .int .i64 (edAt xs q).src, .int .i64 (edAt xs q).dst, .int .i64 (edAt xs q).cost] 94) := ⟨_, rfl⟩
          have HB0 : Hid (Below w.heap.size w W0) := by rw [hW0]; exact HB.out.alloc HB.out.size _
          have HO0 : Hid (OwnEd W0 w.heap.size (.slice A2 out.length c2) out) := by rw [hW0]; exact OwnS.alloc HO.out _
          have HW0 := Lib.hid hW0
          have HSZ := Lib.hid (show wr.heap.size + 1 = W0.heap.size by rw [hW0]; simp)
          clear hout hW0
          go_wp2_with (at_builtin; rw [← HW0.out]; go_must (refine wp_appEH rfl _ _ rfl w W0 (wr.heap.size + 1) HSZ.out (.slice A2 out.length c2) out (out.length : Int) (edAt xs q).src (edAt xs q).dst (edAt xs q).cost ⟨(out.length : Int), (edAt xs q).src, (edAt xs q).dst, (edAt xs q).cost⟩ rfl rfl rfl HO0.out (by omega) HB0.out ?_); intro A3 c3 w3 HO3 HB3)
          go_roundw
          case rel => exact ⟨q + 1, by omega, by go_num, by rw [HNQ.out]; exact (show out.length + 1 = (out ++ [(⟨(out.length : Int), (edAt xs q).src, (edAt xs q).dst, (edAt xs q).cost⟩ : Edge)]).length by simp) ▸ HO3.out, HB3.out⟩
          case measure => simp [intOf]; omega
        · have hqe : q = xs.length := by omega
          subst hqe
          rw [List.take_length] at HO ⊢
          have i2 : ¬ ((xs.length : Int) < (xs.length : Int)) := by omega
          go_wp2_with fail
          go_roundw
          case rel => exact ⟨k + 1, by omega, by go_num, by rw [HN.out]; exact HO.out, HB.out⟩
          case measure => simp [intOf]; omega
    · have hkl : k = 2 := by omega
      subst hkl
      have hle : (numF (preJ l1 l2 2) 0).length ≤ 1000 := by rw [numF_len]; simp [preJ]; omega
      have HP := Lib.hid (show preJ l1 l2 2 = l1 ++ l2 by simp [preJ])
      go_wp2_with fail
      go_ret
      rw [HP.out] at HO ⊢
      rw [HP.out] at hle
      exact ⟨A1, c1, rfl, HO.out.rdE hle, HB.out⟩
end Go.Proofs.Ytoeiongnjogpeaa
