/- Proved here: Max of the package flow returns the worth of a greatest flow. Condition: accepted edges. -/
import Derived.Test.YtambnjhopijkfaaFlowTh
import Derived.Test.YtambnjhopijkfaaValid
namespace Go.Proofs.Ytambnjhopijkfaa
open Go.RowKit
noncomputable def maxV (l : List Edge) (s t : Int) : Int := @dite _ (∃ f S, MaxF l f s t S) (Classical.propDecidable _) (fun h => net l h.choose s) (fun _ => 0)
theorem maxV_of {l : List Edge} {f : List Int} {s t : Int} {S : List Int} (h : MaxF l f s t S) : maxV l s t = net l f s := by
  have hx : ∃ f S, MaxF l f s t S := ⟨f, S, h⟩
  unfold maxV
  rw [dif_pos hx]
  exact (hx.choose_spec.choose_spec).val_eq h
theorem maxV_same (l : List Edge) (s : Int) : maxV l s s = 0 := by
  unfold maxV
  rw [dif_neg]
  rintro ⟨f, S, h⟩
  exact h.dst h.src
def cutOf (l : List Edge) (T : Int → Bool) : List Int := ((List.range l.length).filter (fun i => T (edAt l i).src && !T (edAt l i).dst)).map Int.ofNat
noncomputable def cutL (l : List Edge) (s t : Int) : List Int := @dite _ (∃ f S, MaxF l f s t S) (Classical.propDecidable _) (fun h => cutOf l (inS h.choose_spec.choose)) (fun _ => [])
theorem cutL_of {l : List Edge} {f : List Int} {s t : Int} {S : List Int} (h : MaxF l f s t S) : cutL l s t = cutOf l (inS S) := by
  have hx : ∃ f S, MaxF l f s t S := ⟨f, S, h⟩
  unfold cutL
  rw [dif_pos hx, (hx.choose_spec.choose_spec).same h]
theorem cutL_same (l : List Edge) (s : Int) : cutL l s s = [] := by
  unfold cutL
  rw [dif_neg]
  rintro ⟨f, S, h⟩
  exact h.dst h.src

/-- flow.Find, one node -/
theorem find_eq (A : Option Addr) (c : Nat) (l : List Edge) (s : Int) (w : World) (hl : RdE w A l) (h200 : l.length ≤ 200) :
    Calls Try.prog 19 #[.slice A l.length c, .int .i64 s, .int .i64 s] w fun e w' => ∃ v, e = .returned v ∧ OwnS 3 1 w' w.heap.size v l.length ((zeros l.length).map (Value.int .i64)) ∧ Below w.heap.size w w' := by
  have hm := hl.1
  have hmk : ∀ W : World, (Instr.makeSlice 23 (.int .i64 (l.length : Int)) (.int .i64 (l.length : Int))).run Try.prog W = .ok (.slice (some ⟨W.heap.size, 0, none⟩) l.length l.length) (W.alloc (.cells (madeCells #[.int .i64 0] l.length) 3)) :=
    fun W => run_make_row' 23 3 (.int .i64 0) 8 Try.underlying23 (by kernel_rfl) rfl .i64 .i64 l.length (by omega) (by omega) W
  clear hl
  go_enter Try.func19, Try.ntmps19
  go_wp2
  go_ret
  have e1 : (w.alloc (.cells #[.slice A l.length c] 22)).heap.size = w.heap.size + 1 := by simp
  refine ⟨_, rfl, ⟨by simp [zeros], _, l.length, rfl, Nat.le_refl _, by simp only [maxLen]; omega, .inr ⟨w.heap.size + 1, 0, madeCells #[.int .i64 0] l.length, rfl, by omega, ?_, by simp [size_madeCells], fun j u hj => ?_⟩⟩, ((((Below.refl _ _).alloc (Nat.le_refl _) _).alloc (by simp) _).alloc (by simp; omega) _)⟩
  · have := heap_alloc_new (w.alloc (.cells #[.slice A l.length c] 22)) (.cells (madeCells #[.int .i64 0] l.length) 3)
    rw [e1] at this
    exact alloc_block this _
  · have hjl : j < l.length := by
      have := (List.getElem?_eq_some_iff.1 hj).1
      simpa [zeros] using this
    simp [zeros, hjl] at hj
    subst hj
    simp [madeCells, hjl, Nat.mod_one]
/-- flow.Max -/
theorem max_any (A : Option Addr) (c : Nat) (l : List Edge) (s t : Int) (w : World) (hl : RdE w A l) (hr : Right l) :
    Calls Try.prog 17 #[.slice A l.length c, .int .i64 s, .int .i64 t] w fun e w' => e = .returned (.int .i64 (maxV l s t)) ∧ Below w.heap.size w w' := by
  have hm := hl.1
  by_cases hst : s = t
  · have he : (s == t) = true := by simpa using hst
    have HZ := Lib.hid (show maxV l s t = 0 by rw [hst]; exact maxV_same l t)
    clear hst hl
    go_enter Try.func17, Try.ntmps17
    go_wp2
    go_ret
    exact ⟨by rw [HZ.out]; rfl, Below.refl _ _⟩
  · have he : (s == t) = false := by simpa using hst
    have HC := Lib.hid (find_ne A c l s t w hl hr hst)
    have HL := Lib.hid hl
    have HR := Lib.hid hr
    clear hst hl hr
    go_enter Try.func17, Try.ntmps17
    go_wp2_with fail
    refine HC.out.mono ?_
    rintro e w1 ⟨v, f, S, rfl, ho, hmx, hb⟩
    obtain ⟨A1, c1, rfl, _, _⟩ := ho.slice
    have hv := value_any A A1 c c1 l f s w1 (HL.out.below hb) ho.rdI hmx.flow.len
    rw [hmx.flow.len] at hv
    have HV := Lib.hid hv
    have HM := Lib.hid (show wrap64 (net l f s) = maxV l s t by rw [maxV_of hmx, hmx.flow.wrap HR.out])
    have HB := Lib.hid hb
    clear hv ho hmx hb
    go_wp2_with fail
    refine HV.out.mono ?_
    rintro e w2 ⟨rfl, hb2⟩
    go_wp2
    go_ret
    exact ⟨by rw [← HM.out]; rfl, below_in HB.out hb2 HB.out.size⟩
theorem BFS.maxF {l : List Edge} {f : List Int} {s t : Int} {S : List Int} {m : Int → Option (Int × Bool)} {ord : List Int} (h : MaxF l f s t S) (hb : BFS l f s m ord) (hs : ∀ u, u ∈ ord → Shut l f u l.length ord) : MaxF l f s t ord :=
  ⟨h.flow, by obtain ⟨r, hr⟩ := hb.head; rw [hr]; simp, fun ht => h.dst (hb.least (· ∈ S) h.src h.shut t ht), fun j b u k hu hr => hs u hu j b k hr.1 hr, fun T h1 h2 => hb.least T h1 h2⟩
theorem cutOf_take (l : List Edge) (T : Int → Bool) (k : Nat) : ((List.range (k + 1)).filter (fun i => T (edAt l i).src && !T (edAt l i).dst)).map Int.ofNat =
    ((List.range k).filter (fun i => T (edAt l i).src && !T (edAt l i).dst)).map Int.ofNat ++ (if T (edAt l k).src && !T (edAt l k).dst then [(k : Int)] else []) := by
  rw [List.range_succ, List.filter_append, List.map_append]
  congr 1
  by_cases h : (T (edAt l k).src && !T (edAt l k).dst) = true
  · rw [if_pos h]; simp [h]
  · rw [if_neg h]; simp only [Bool.not_eq_true] at h; simp [h]
end Go.Proofs.Ytambnjhopijkfaa
