/- Proved here: the law GraphShortest returns true for all arguments that read as edges and numbers, and changes nothing that was there before. -/
import Derived.Test.YtmnkgcnhmkggkaaWalk5
import Derived.Test.YtmnkgcnhmkggkaaFewTh
namespace Go.Proofs.Ytmnkgcnhmkggkaa
open Go.RowKit
/-- What the law looks at, told. -/
theorem short_facts {l : List Edge} (hr : Right l) {a b : Int} {ids : List Int} {n : Int} {ok : Bool} (h : ShortR l a b ids n ok) (other : List Int) :
    (ok = true ∧ walkR l ids a b = (n, true) ∧ ((walkR l other a b).2 = true → n < (walkR l other a b).1 ∨ n = (walkR l other a b).1 ∧ ids.length ≤ other.length)) ∨ (ok = false ∧ ids = [] ∧ n = 0 ∧ (walkR l other a b).2 = false) := by
  have hiw := h.iff_walk
  have other_walk : (walkR l other a b).2 = true → ∃ v : CK, Walk l b a v ∧ (walkR l other a b).1 = v.1 ∧ v.2 = other.length := by
    unfold walkR
    cases hw : walkF l other 0 a with
    | none => simp
    | some r =>
      obtain ⟨m, x⟩ := r
      intro hx
      have hxb : x = b := by simpa using hx
      subst hxb
      obtain ⟨v, hv, h1, h2⟩ := follow_walk hr other 0 a m hw
      exact ⟨v, hv, by simpa using h1, h2⟩
  obtain ⟨B, hB, h⟩ := h
  rcases h with ⟨_, h2, h3, rfl⟩ | ⟨v, h1, h2, rfl, rfl⟩
  · refine .inr ⟨rfl, h2, h3, ?_⟩
    rw [Bool.eq_false_iff]
    intro hw
    obtain ⟨v, hv, _⟩ := other_walk hw
    have := hiw.2 ⟨v, hv⟩
    cases this
  · obtain ⟨f1, f2⟩ := h2.follow hr hB v h1
    refine .inl ⟨rfl, ?_, fun hw => ?_⟩
    · unfold walkR
      rw [f2 0]
      simp
    · obtain ⟨v', hv', e1, e2⟩ := other_walk hw
      obtain ⟨z, hz, hle⟩ := hB.least _ _ hv'
      rw [h1] at hz; cases hz
      rw [leC_iff] at hle
      rw [e1, f1]
      omega
set_option maxRecDepth 100000 in
set_option maxHeartbeats 4000000 in
theorem graphShortest_walk (A : Option Addr) (c : Nat) (l : List Edge) (p q : Int) (_u0 : Unit) (F : Option Addr) (d : Nat) (other : List Int) (w : World) (hl : RdE w A l)
    (hpq : (-9223372036854775808 ≤ p ∧ p ≤ 9223372036854775807) ∧ (-9223372036854775808 ≤ q ∧ q ≤ 9223372036854775807)) (hn : RdI w F other) :
    Calls Try.prog 7 #[.slice A l.length c, .agg #[.int .i64 p, .int .i64 q], .slice F other.length d] w fun e w' => e = .returned (.bool true) ∧ Below w.heap.size w w' := by
  have hm := hl.1
  have hm2 := hn.1
  have HL := Lib.hid hl
  have HN := Lib.hid hn
  have HPQ := Lib.hid hpq
  clear hl hn hpq
  go_enter Try.func7, Try.ntmps7
  have HA := Lib.hid (alive_any (w.alloc (.cells #[.int .i64 p, .int .i64 q] 36)))
  go_wp2_with fail
  refine HA.out.mono ?_
  rintro e w1 ⟨rfl, hb⟩
  have HB := Lib.hid (below_in (box_below w _) hb (by simp))
  have HP := Lib.hid ((rdI_pair (W := w.alloc (.cells #[.int .i64 p, .int .i64 q] 36)) rfl rfl).below hb)
  clear hb HA
  have HC := Lib.hid (lright_any A c l w1 (HL.out.below HB.out))
  go_wp2_with fail
  refine HC.out.mono ?_
  rintro e w2 ⟨rfl, hb⟩
  replace HB := Lib.hid (below_in HB.out hb HB.out.size)
  replace HP := Lib.hid (HP.out.below hb)
  clear hb HC
  by_cases hr0 : errL l = 0
  · have hr := errL_zero hr0
    have hr1 : (errL l == 0) = true := by simp [hr0]
    rw [hr1]
    have HR := Lib.hid hr
    have h200 := hr.len
    clear hr hr0 hr1
    by_cases h300 : other.length ≤ 300
    · have i1 : decide (300 < other.length) = false := by simp; omega
      have i2 : decide ((300 : Int) < (other.length : Int)) = false := by simp; omega
      have y0 : w2.cell? ⟨w.heap.size, 0, none⟩ = some (.int .i64 p) := by
        have := HP.out.at_ (i := 0) (Below.refl _ _) (by simp)
        rw [Addr.add_lit] at this
        exact this
      have y1 : w2.cell? ⟨w.heap.size, 1, none⟩ = some (.int .i64 q) := by
        have := HP.out.at_ (i := 1) (Below.refl _ _) (by simp)
        rw [Addr.add_lit] at this
        exact this
      go_wp2_with fail
      go_big_quiet (fail)
      have HB0 := Lib.hid (below_drewN HB.out nq)
      obtain ⟨w3, hw3⟩ : ∃ w3, w3 = w2.drewN nq := ⟨_, rfl⟩
      rw [← hw3] at HB0 ⊢
      clear y0 y1 HP HB hw3
      have HC := Lib.hid (short_any A c l p q w3 (HL.out.below HB0.out) HR.out)
      go_wp2_with fail
      refine HC.out.mono ?_
      rintro e w4 ⟨v4, ids, n, ok, rfl, hs, hidl, ho, hb⟩
      obtain ⟨A4, c4, rfl, _, _⟩ := ho.slice
      have HB := Lib.hid (below_in HB0.out hb HB0.out.size)
      have HX := Lib.hid ho.rdI
      have HIW := Lib.hid hs.iff_walk
      have hfacts := short_facts HR.out hs other
      clear hb ho hs HC HB0
      have HC := Lib.hid (show Calls Try.prog 16 #[.slice A l.length c, .slice (some ⟨w4.heap.size, 0, none⟩) 1 1] (w4.alloc (.cells #[.int .i64 p] 3)) (fun e w' => ∃ A' c' ss, e = .returned (.slice A' ss.length c') ∧ RdI w' A' ss ∧ RS5 l [p] ss ∧ Below w4.heap.size w4 w') from
        reach_at A c l HR.out [p] (by simpa using HPQ.out.1) (by simp) w4 (HL.out.below HB.out))
      have HFA := Lib.hid hfacts
      clear hfacts
      go_wp2_with fail
      refine HC.out.mono ?_
      rintro e w5 ⟨A5, c5, s5, rfl, hr5, hs5, hb⟩
      replace HB := Lib.hid (below_in HB.out hb HB.out.size)
      replace HX := Lib.hid (HX.out.below hb)
      have hd5 : decide (q ∈ s5) = ok := by
        have h1 := hs5.iff_walk (b := q)
        have h2 := HIW.out
        cases ok with
        | true => exact decide_eq_true (h1.2 (h2.1 rfl))
        | false => exact decide_eq_false (fun hq => by have := h2.2 (h1.1 hq); cases this)
      have hC := has_any A5 c5 s5 q w5 hr5
      rw [hd5] at hC
      clear HC hb hr5 hs5 hd5
      have HC := Lib.hid hC
      clear hC
      have t1 : (ok != ok) = false := by simp
      go_wp2_with fail
      refine HC.out.mono ?_
      rintro e w6 ⟨rfl, rfl⟩
      have HC2 := Lib.hid (show Calls Try.prog 18 #[.slice A l.length c, .slice (some ⟨w5.heap.size, 0, none⟩) 1 1] (w5.alloc (.cells #[.int .i64 q] 3)) (fun e w' => ∃ A' c' ss, e = .returned (.slice A' ss.length c') ∧ RdI w' A' ss ∧ RS5 (l.map turnE) [q] ss ∧ Below w5.heap.size w5 w') from
        back_at A c l HR.out [q] (by simpa using HPQ.out.2) (by simp) w5 (HL.out.below HB.out))
      clear HC
      go_wp2_with fail
      refine HC2.out.mono ?_
      rintro e w7 ⟨A7, c7, s7, rfl, hr7, hs7, hb⟩
      replace HB := Lib.hid (below_in HB.out hb HB.out.size)
      replace HX := Lib.hid (HX.out.below hb)
      have hd7 : decide (p ∈ s7) = ok := by
        have h1 := hs7.back_iff (a := p)
        have h2 := HIW.out
        cases ok with
        | true => exact decide_eq_true (h1.2 (h2.1 rfl))
        | false => exact decide_eq_false (fun hq => by have := h2.2 (h1.1 hq); cases this)
      have hC := has_any A7 c7 s7 p w7 hr7
      rw [hd7] at hC
      clear HC2 hb hr7 hs7 hd7 HIW
      have HC := Lib.hid hC
      clear hC
      go_wp2_with fail
      refine HC.out.mono ?_
      rintro e w8 ⟨rfl, rfl⟩
      clear HC
      have HC := Lib.hid (walk_any A A4 c c4 l ids p q w7 (HL.out.below HB.out) HX.out HR.out (by omega))
      have HD := Lib.hid (fun W (h : Below w7.heap.size w7 W) => walk_any A F c d l other p q W (HL.out.below (below_in HB.out h HB.out.size)) (HN.out.below (below_in HB.out h HB.out.size)) HR.out (by omega))
      obtain ⟨m, hmm⟩ : ∃ m, m = (walkR l other p q).1 := ⟨_, rfl⟩
      obtain ⟨is, his⟩ : ∃ is, is = (walkR l other p q).2 := ⟨_, rfl⟩
      have hfa := HFA.out
      rw [← hmm, ← his] at hfa HD
      clear hmm his HFA
      rcases hfa with ⟨rfl, hwr, himp⟩ | ⟨rfl, rfl, rfl, rfl⟩
      · rw [hwr] at HC
        have t2 : (n != n) = false := by simp
        have HIMP := Lib.hid himp
        clear hwr himp
        go_wp2_with fail
        refine HC.out.mono ?_
        rintro e w9 ⟨rfl, hb⟩
        have HB9 := Lib.hid (below_in HB.out hb HB.out.size)
        have HD2 := Lib.hid (HD.out w9 hb)
        clear hb HC HD HX
        go_wp2_with fail
        refine HD2.out.mono ?_
        rintro e w10 ⟨rfl, hb⟩
        have HB10 := Lib.hid (below_in HB9.out hb HB9.out.size)
        clear hb HD2
        cases is with
        | false =>
          go_wp2_with fail
          go_ret
          exact ⟨rfl, HB10.out⟩
        | true =>
          rcases Int.lt_or_le n m with hlt | hge
          · go_wp2_with fail
            go_ret
            exact ⟨rfl, HB10.out⟩
          · obtain ⟨h1, h2⟩ := (HIMP.out rfl).resolve_left (by omega)
            subst h1
            have t3 : (n == n) = true := by simp
            have t4 : decide (n < n) = false := by simp
            have t5 : (ids.length : Int) ≤ (other.length : Int) := by omega
            clear HIMP hge
            go_wp2_with fail
            go_ret
            exact ⟨rfl, HB10.out⟩
      · go_wp2_with fail
        refine HC.out.mono ?_
        rintro e w9 ⟨rfl, hb⟩
        have HB9 := Lib.hid (below_in HB.out hb HB.out.size)
        have HD2 := Lib.hid (HD.out w9 hb)
        clear hb HC HD HX
        go_wp2_with fail
        refine HD2.out.mono ?_
        rintro e w10 ⟨rfl, hb⟩
        have HB10 := Lib.hid (below_in HB9.out hb HB9.out.size)
        clear hb HD2
        go_wp2_with fail
        go_ret
        exact ⟨rfl, HB10.out⟩
    · have i1 : 300 < other.length := by omega
      have i2 : (300 : Int) < (other.length : Int) := by omega
      go_wp2_with fail
      go_ret
      exact ⟨rfl, HB.out⟩
  · have hr1 : (errL l == 0) = false := by simp [hr0]
    rw [hr1]
    go_wp2_with fail
    go_ret
    exact ⟨rfl, HB.out⟩
end Go.Proofs.Ytmnkgcnhmkggkaa
