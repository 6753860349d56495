/- How times stand: the program's LE. No condition. -/
import Derived.Test.YtfmnbkcjibhloaaLawLib
namespace Go.Proofs.Ytfmnbkcjibhloaa
open Go.RowKit
set_option linter.unusedVariables false
set_option linter.unusedSimpArgs false
attribute [local go_sem] eqA4 eqA3 G.upon_value G.upon_skip G.upon_enter G.runAt_run
open G
theorem tle_no {a b : Tm} (h : ¬ (a.d = b.d ∧ 0 ≤ a.d ∧ a.d ≤ 3 ∧ a.e ≤ b.e ∧ ∀ i : Int, 0 ≤ i → i < a.d → a.L i ≤ b.L i)) : tleR a b = false := by
  rw [Bool.eq_false_iff]; exact fun h' => h (tle_iff.1 h')
set_option maxHeartbeats 4000000 in
theorem tle_all (e d m0 m1 m2 e' d' n0 n1 n2 : Int) (w : World) : Calls Try.prog 39 #[.agg #[.int .u32 e, .int .i64 d, .int .u32 m0, .int .u32 m1, .int .u32 m2], .agg #[.int .u32 e', .int .i64 d', .int .u32 n0, .int .u32 n1, .int .u32 n2]] w fun e1 w' => e1 = .returned (.bool (tleR ⟨e, d, m0, m1, m2⟩ ⟨e', d', n0, n1, n2⟩)) ∧ Below w.heap.size w w' := by
  by_cases hd : d = d'
  · subst hd
    by_cases ht : 0 ≤ d ∧ d ≤ 3
    · have HD := Lib.hid (show decide (0 ≤ d ∧ d ≤ 3) = true from decide_eq_true ht)
      by_cases he : e' < e
      · have HR := Lib.hid (tle_no (a := ⟨e, d, m0, m1, m2⟩) (b := ⟨e', d, n0, n1, n2⟩) (fun h => by have := h.2.2.2.1; simp only at this; omega))
        rw [HR.out]
        clear ht
        go_enter Try.func39, Try.ntmps39
        go_upto_region 1 with (fail)
        have ha : Row ((w.alloc (.cells #[.int .u32 e, .int .i64 d, .int .u32 m0, .int .u32 m1, .int .u32 m2] 49)).alloc (.cells #[.int .u32 e', .int .i64 d, .int .u32 n0, .int .u32 n1, .int .u32 n2] 49)) w.heap.size #[.int .u32 e, .int .i64 d, .int .u32 m0, .int .u32 m1, .int .u32 m2] 49 := (Row.new w _ 49).alloc _
        have hb : Row ((w.alloc (.cells #[.int .u32 e, .int .i64 d, .int .u32 m0, .int .u32 m1, .int .u32 m2] 49)).alloc (.cells #[.int .u32 e', .int .i64 d, .int .u32 n0, .int .u32 n1, .int .u32 n2] 49)) (w.heap.size + 1) #[.int .u32 e', .int .i64 d, .int .u32 n0, .int .u32 n1, .int .u32 n2] 49 := by simpa using Row.new (w.alloc (.cells #[.int .u32 e, .int .i64 d, .int .u32 m0, .int .u32 m1, .int .u32 m2] 49)) #[.int .u32 e', .int .i64 d, .int .u32 n0, .int .u32 n1, .int .u32 n2] 49
        have hz : Below w.heap.size w ((w.alloc (.cells #[.int .u32 e, .int .i64 d, .int .u32 m0, .int .u32 m1, .int .u32 m2] 49)).alloc (.cells #[.int .u32 e', .int .i64 d, .int .u32 n0, .int .u32 n1, .int .u32 n2] 49)) := below_of (below_new _ _) (below_new _ _)
        have HZ := Lib.hid hz
        clear hz
        generalize (w.alloc (.cells #[.int .u32 e, .int .i64 d, .int .u32 m0, .int .u32 m1, .int .u32 m2] 49)).alloc (.cells #[.int .u32 e', .int .i64 d, .int .u32 n0, .int .u32 n1, .int .u32 n2] 49) = wc at ha hb HZ ⊢
        generalize w.heap.size = A at ha hb ⊢
        generalize A + 1 = B at hb ⊢
        obtain ⟨a_0, a_1, a_2, a_3, a_4, a_f⟩ := ha.atTm
        obtain ⟨b_0, b_1, b_2, b_3, b_4, b_f⟩ := hb.atTm
        go_wp2_with (go_at_call 52; (with_reducible refine (sthere_any d _).mono ?_); rw [HD.out]; rintro e' w' ⟨rfl, rfl⟩)
        go_ret
        exact ⟨rfl, HZ.out⟩
      · obtain ⟨dn, rfl⟩ := Int.eq_ofNat_of_zero_le ht.1
        have d3 : dn ≤ 3 := by omega
        have he2 : e ≤ e' := by omega
        have d3i : (dn : Int) ≤ 3 := by omega
        have d0i : (0 : Int) ≤ dn := by omega
        have HE := Lib.hid he2
        have hed : decide (e' < e) = false := by simp; omega
        obtain ⟨r, hr⟩ : ∃ r, tleR ⟨e, (dn : Int), m0, m1, m2⟩ ⟨e', (dn : Int), n0, n1, n2⟩ = r := ⟨_, rfl⟩
        rw [hr]
        have HR := Lib.hid hr
        clear hr ht he2 he
        go_enter Try.func39, Try.ntmps39
        go_upto_region 1 with (fail)
        have ha : Row ((w.alloc (.cells #[.int .u32 e, .int .i64 dn, .int .u32 m0, .int .u32 m1, .int .u32 m2] 49)).alloc (.cells #[.int .u32 e', .int .i64 dn, .int .u32 n0, .int .u32 n1, .int .u32 n2] 49)) w.heap.size #[.int .u32 e, .int .i64 dn, .int .u32 m0, .int .u32 m1, .int .u32 m2] 49 := (Row.new w _ 49).alloc _
        have hb : Row ((w.alloc (.cells #[.int .u32 e, .int .i64 dn, .int .u32 m0, .int .u32 m1, .int .u32 m2] 49)).alloc (.cells #[.int .u32 e', .int .i64 dn, .int .u32 n0, .int .u32 n1, .int .u32 n2] 49)) (w.heap.size + 1) #[.int .u32 e', .int .i64 dn, .int .u32 n0, .int .u32 n1, .int .u32 n2] 49 := by simpa using Row.new (w.alloc (.cells #[.int .u32 e, .int .i64 dn, .int .u32 m0, .int .u32 m1, .int .u32 m2] 49)) #[.int .u32 e', .int .i64 dn, .int .u32 n0, .int .u32 n1, .int .u32 n2] 49
        have hz : Below w.heap.size w ((w.alloc (.cells #[.int .u32 e, .int .i64 dn, .int .u32 m0, .int .u32 m1, .int .u32 m2] 49)).alloc (.cells #[.int .u32 e', .int .i64 dn, .int .u32 n0, .int .u32 n1, .int .u32 n2] 49)) := below_of (below_new _ _) (below_new _ _)
        have HZ := Lib.hid hz
        clear hz
        generalize (w.alloc (.cells #[.int .u32 e, .int .i64 dn, .int .u32 m0, .int .u32 m1, .int .u32 m2] 49)).alloc (.cells #[.int .u32 e', .int .i64 dn, .int .u32 n0, .int .u32 n1, .int .u32 n2] 49) = wc at ha hb HZ ⊢
        generalize w.heap.size = A at ha hb ⊢
        generalize A + 1 = B at hb ⊢
        obtain ⟨a_0, a_1, a_2, a_3, a_4, a_f⟩ := ha.atTm
        obtain ⟨b_0, b_1, b_2, b_3, b_4, b_f⟩ := hb.atTm
        go_wp2_with (go_at_call 52; (with_reducible refine (sthere_any dn _).mono ?_); rw [HD.out]; rintro e' w' ⟨rfl, rfl⟩)
        go_loop [30] (fun i => ∃ j : Nat, j ≤ dn ∧ i = .int .i64 j ∧ Hid (∀ t : Nat, t < j → (⟨e, dn, m0, m1, m2⟩ : Tm).L t ≤ (⟨e', dn, n0, n1, n2⟩ : Tm).L t)) (fun i => dn - (intOf i).toNat)
        case atStart => exact ⟨0, by omega, rfl, Lib.hid (fun t ht => absurd ht (Nat.not_lt_zero _))⟩
        case round =>
          obtain ⟨j, hj, rfl, hn⟩ := hrel
          by_cases hlt : j < dn
          · have hj3 : j = 0 ∨ j = 1 ∨ j = 2 := by omega
            rcases hj3 with rfl | rfl | rfl
            · by_cases hc : n0 < m0
              · obtain rfl : r = false := HR.out.symm.trans (tle_no (fun h => by
                  have := h.2.2.2.2 0 (by omega) (by simp only; omega)
                  simp [Tm.L] at this
                  omega))
                go_wp2
                go_ret
                exact ⟨rfl, HZ.out⟩
              · have hcd : decide (n0 < m0) = false := by simp; omega
                have hn' : Hid (∀ t : Nat, t < 0 + 1 → (⟨e, dn, m0, m1, m2⟩ : Tm).L t ≤ (⟨e', dn, n0, n1, n2⟩ : Tm).L t) := Lib.hid (fun t ht => by
                  by_cases e : t = 0
                  · subst e; simp [Tm.L]; omega
                  · exact hn.out t (by omega))
                clear hn hc
                go_wp2
                go_round
                case rel => exact ⟨0 + 1, by omega, by go_num, hn'⟩
                case measure => simp [intOf] <;> omega
            · by_cases hc : n1 < m1
              · obtain rfl : r = false := HR.out.symm.trans (tle_no (fun h => by
                  have := h.2.2.2.2 1 (by omega) (by simp only; omega)
                  simp [Tm.L] at this
                  omega))
                go_wp2
                go_ret
                exact ⟨rfl, HZ.out⟩
              · have hcd : decide (n1 < m1) = false := by simp; omega
                have hn' : Hid (∀ t : Nat, t < 1 + 1 → (⟨e, dn, m0, m1, m2⟩ : Tm).L t ≤ (⟨e', dn, n0, n1, n2⟩ : Tm).L t) := Lib.hid (fun t ht => by
                  by_cases e : t = 1
                  · subst e; simp [Tm.L]; omega
                  · exact hn.out t (by omega))
                clear hn hc
                go_wp2
                go_round
                case rel => exact ⟨1 + 1, by omega, by go_num, hn'⟩
                case measure => simp [intOf] <;> omega
            · by_cases hc : n2 < m2
              · obtain rfl : r = false := HR.out.symm.trans (tle_no (fun h => by
                  have := h.2.2.2.2 2 (by omega) (by simp only; omega)
                  simp [Tm.L] at this
                  omega))
                go_wp2
                go_ret
                exact ⟨rfl, HZ.out⟩
              · have hcd : decide (n2 < m2) = false := by simp; omega
                have hn' : Hid (∀ t : Nat, t < 2 + 1 → (⟨e, dn, m0, m1, m2⟩ : Tm).L t ≤ (⟨e', dn, n0, n1, n2⟩ : Tm).L t) := Lib.hid (fun t ht => by
                  by_cases e : t = 2
                  · subst e; simp [Tm.L]; omega
                  · exact hn.out t (by omega))
                clear hn hc
                go_wp2
                go_round
                case rel => exact ⟨2 + 1, by omega, by go_num, hn'⟩
                case measure => simp [intOf] <;> omega
          · obtain rfl : dn = j := by omega
            obtain rfl : r = true := HR.out.symm.trans (tle_iff.2 ⟨rfl, by simp, by simp only; omega, HE.out, fun i h0 h1 => by
              obtain ⟨t, rfl⟩ := Int.eq_ofNat_of_zero_le h0
              exact hn.out t (by simp only at h1; omega)⟩)
            go_wp2
            go_ret
            exact ⟨rfl, HZ.out⟩
    · have HD := Lib.hid (show decide (0 ≤ d ∧ d ≤ 3) = false from decide_eq_false ht)
      have HR := Lib.hid (tle_no (a := ⟨e, d, m0, m1, m2⟩) (b := ⟨e', d, n0, n1, n2⟩) (fun h => ht ⟨h.2.1, h.2.2.1⟩))
      rw [HR.out]
      clear ht
      go_enter Try.func39, Try.ntmps39
      go_upto_region 1 with (fail)
      have ha : Row ((w.alloc (.cells #[.int .u32 e, .int .i64 d, .int .u32 m0, .int .u32 m1, .int .u32 m2] 49)).alloc (.cells #[.int .u32 e', .int .i64 d, .int .u32 n0, .int .u32 n1, .int .u32 n2] 49)) w.heap.size #[.int .u32 e, .int .i64 d, .int .u32 m0, .int .u32 m1, .int .u32 m2] 49 := (Row.new w _ 49).alloc _
      have hb : Row ((w.alloc (.cells #[.int .u32 e, .int .i64 d, .int .u32 m0, .int .u32 m1, .int .u32 m2] 49)).alloc (.cells #[.int .u32 e', .int .i64 d, .int .u32 n0, .int .u32 n1, .int .u32 n2] 49)) (w.heap.size + 1) #[.int .u32 e', .int .i64 d, .int .u32 n0, .int .u32 n1, .int .u32 n2] 49 := by simpa using Row.new (w.alloc (.cells #[.int .u32 e, .int .i64 d, .int .u32 m0, .int .u32 m1, .int .u32 m2] 49)) #[.int .u32 e', .int .i64 d, .int .u32 n0, .int .u32 n1, .int .u32 n2] 49
      have hz : Below w.heap.size w ((w.alloc (.cells #[.int .u32 e, .int .i64 d, .int .u32 m0, .int .u32 m1, .int .u32 m2] 49)).alloc (.cells #[.int .u32 e', .int .i64 d, .int .u32 n0, .int .u32 n1, .int .u32 n2] 49)) := below_of (below_new _ _) (below_new _ _)
      have HZ := Lib.hid hz
      clear hz
      generalize (w.alloc (.cells #[.int .u32 e, .int .i64 d, .int .u32 m0, .int .u32 m1, .int .u32 m2] 49)).alloc (.cells #[.int .u32 e', .int .i64 d, .int .u32 n0, .int .u32 n1, .int .u32 n2] 49) = wc at ha hb HZ ⊢
      generalize w.heap.size = A at ha hb ⊢
      generalize A + 1 = B at hb ⊢
      obtain ⟨a_0, a_1, a_2, a_3, a_4, a_f⟩ := ha.atTm
      obtain ⟨b_0, b_1, b_2, b_3, b_4, b_f⟩ := hb.atTm
      go_wp2_with (go_at_call 52; (with_reducible refine (sthere_any d _).mono ?_); rw [HD.out]; rintro e' w' ⟨rfl, rfl⟩)
      go_ret
      exact ⟨rfl, HZ.out⟩
  · have hne : (d != d') = true := by simp [hd]
    have HR := Lib.hid (tle_no (a := ⟨e, d, m0, m1, m2⟩) (b := ⟨e', d', n0, n1, n2⟩) (fun h => hd h.1))
    rw [HR.out]
    clear hd
    go_enter Try.func39, Try.ntmps39
    go_upto_region 1 with (fail)
    have ha : Row ((w.alloc (.cells #[.int .u32 e, .int .i64 d, .int .u32 m0, .int .u32 m1, .int .u32 m2] 49)).alloc (.cells #[.int .u32 e', .int .i64 d', .int .u32 n0, .int .u32 n1, .int .u32 n2] 49)) w.heap.size #[.int .u32 e, .int .i64 d, .int .u32 m0, .int .u32 m1, .int .u32 m2] 49 := (Row.new w _ 49).alloc _
    have hb : Row ((w.alloc (.cells #[.int .u32 e, .int .i64 d, .int .u32 m0, .int .u32 m1, .int .u32 m2] 49)).alloc (.cells #[.int .u32 e', .int .i64 d', .int .u32 n0, .int .u32 n1, .int .u32 n2] 49)) (w.heap.size + 1) #[.int .u32 e', .int .i64 d', .int .u32 n0, .int .u32 n1, .int .u32 n2] 49 := by simpa using Row.new (w.alloc (.cells #[.int .u32 e, .int .i64 d, .int .u32 m0, .int .u32 m1, .int .u32 m2] 49)) #[.int .u32 e', .int .i64 d', .int .u32 n0, .int .u32 n1, .int .u32 n2] 49
    have hz : Below w.heap.size w ((w.alloc (.cells #[.int .u32 e, .int .i64 d, .int .u32 m0, .int .u32 m1, .int .u32 m2] 49)).alloc (.cells #[.int .u32 e', .int .i64 d', .int .u32 n0, .int .u32 n1, .int .u32 n2] 49)) := below_of (below_new _ _) (below_new _ _)
    have HZ := Lib.hid hz
    clear hz
    generalize (w.alloc (.cells #[.int .u32 e, .int .i64 d, .int .u32 m0, .int .u32 m1, .int .u32 m2] 49)).alloc (.cells #[.int .u32 e', .int .i64 d', .int .u32 n0, .int .u32 n1, .int .u32 n2] 49) = wc at ha hb HZ ⊢
    generalize w.heap.size = A at ha hb ⊢
    generalize A + 1 = B at hb ⊢
    obtain ⟨a_0, a_1, a_2, a_3, a_4, a_f⟩ := ha.atTm
    obtain ⟨b_0, b_1, b_2, b_3, b_4, b_f⟩ := hb.atTm
    go_wp2
    go_ret
    exact ⟨rfl, HZ.out⟩
theorem tle_any (s t : Tm) (w : World) : Calls Try.prog 39 #[.agg #[.int .u32 s.e, .int .i64 s.d, .int .u32 s.l0, .int .u32 s.l1, .int .u32 s.l2], .agg #[.int .u32 t.e, .int .i64 t.d, .int .u32 t.l0, .int .u32 t.l1, .int .u32 t.l2]] w fun e1 w' => e1 = .returned (.bool (tleR s t)) ∧ Below w.heap.size w w' := tle_all s.e s.d s.l0 s.l1 s.l2 t.e t.d t.l0 t.l1 t.l2 w
end Go.Proofs.Ytfmnbkcjibhloaa
