/- LE of two ways, the program's. No condition. -/
import Derived.Test.YtfmnbkcjibhloaaQui
namespace Go.Proofs.Ytfmnbkcjibhloaa
open Go.RowKit
set_option linter.unusedVariables false
set_option linter.unusedSimpArgs false
/-- The least that a way makes of a round. -/
def leastR (p : Pa) (i : Nat) : Int := if (i : Int) < p.k then p.al.getD (i + 1) 0 else p.ll.getD (i - p.k.toNat) 0
def leR (p q : Pa) : Bool := decide (chk p = 0 ∧ chk q = 0 ∧ p.f = q.f ∧ toR p = toR q ∧ p.k ≤ q.k ∧ p.a0 ≤ q.a0 ∧ ∀ i ∈ List.range 3, (i : Int) < toR p → leastR p i ≤ leastR q i)
theorem leR_no {p q : Pa} (h : ¬ (chk p = 0 ∧ chk q = 0 ∧ p.f = q.f ∧ toR p = toR q ∧ p.k ≤ q.k ∧ p.a0 ≤ q.a0 ∧ ∀ i ∈ List.range 3, (i : Int) < toR p → leastR p i ≤ leastR q i)) : leR p q = false := decide_eq_false h
theorem leR_yes {p q : Pa} (h : chk p = 0 ∧ chk q = 0 ∧ p.f = q.f ∧ toR p = toR q ∧ p.k ≤ q.k ∧ p.a0 ≤ q.a0 ∧ ∀ i ∈ List.range 3, (i : Int) < toR p → leastR p i ≤ leastR q i) : leR p q = true := decide_eq_true h
theorem getD_of {l : List Int} {j : Nat} {x : Int} (h : l[j]? = some x) : l.getD j 0 = x := by rw [List.getD_eq_getElem?_getD, h]; rfl
theorem toR_ok {p : Pa} (h : chk p = 0) : toR p = p.k + p.u := by simp [toR, h]
theorem least_any (p : Pa) (i : Nat) (hc : chk p = 0) (hi : (i : Int) < p.k + p.u) (w : World) : Calls Try.prog 44 #[.agg #[.int .i64 p.f, .int .i64 p.k, .int .u32 p.a0, .int .u32 p.a1, .int .u32 p.a2, .int .u32 p.a3, .int .i64 p.u, .int .u32 p.l0, .int .u32 p.l1, .int .u32 p.l2], .int .i64 i] w fun e w' => e = .returned (.int .u32 (leastR p i)) ∧ Below w.heap.size w w' := by
  obtain ⟨h1, h2, h3, h4, h5, h6⟩ := dpt_no (chk_0 hc)
  have HK := Lib.hid hc
  clear hc
  by_cases hk : (i : Int) < p.k
  · obtain ⟨x, hx⟩ := getA p (i + 1) (by omega)
    have hx2 : leastR p i = x := by unfold leastR; rw [if_pos hk]; exact getD_of hx
    rw [hx2]
    have HX := Lib.hid hx
    clear hx hx2
    go_enter Try.func44, Try.ntmps44
    go_upto_region 1 with (fail)
    have hr : Row (w.alloc (.cells #[.int .i64 p.f, .int .i64 p.k, .int .u32 p.a0, .int .u32 p.a1, .int .u32 p.a2, .int .u32 p.a3, .int .i64 p.u, .int .u32 p.l0, .int .u32 p.l1, .int .u32 p.l2] 26)) w.heap.size #[.int .i64 p.f, .int .i64 p.k, .int .u32 p.a0, .int .u32 p.a1, .int .u32 p.a2, .int .u32 p.a3, .int .i64 p.u, .int .u32 p.l0, .int .u32 p.l1, .int .u32 p.l2] 26 := Row.new _ _ _
    have hbw := below_new w (.cells #[.int .i64 p.f, .int .i64 p.k, .int .u32 p.a0, .int .u32 p.a1, .int .u32 p.a2, .int .u32 p.a3, .int .i64 p.u, .int .u32 p.l0, .int .u32 p.l1, .int .u32 p.l2] 26)
    generalize w.alloc (.cells #[.int .i64 p.f, .int .i64 p.k, .int .u32 p.a0, .int .u32 p.a1, .int .u32 p.a2, .int .u32 p.a3, .int .i64 p.u, .int .u32 p.l0, .int .u32 p.l1, .int .u32 p.l2] 26) = wc at hr hbw ⊢
    have ca := rowA hr _ _ HX.out
    obtain ⟨_, c1, _, _, _, _, _, _, _, _, _⟩ := hr.atP
    generalize w.heap.size = b at hr ca c1 ⊢
    have ca2 : wc.cell? ⟨b, 2 + (1 + i), none⟩ = some (.int .u32 x) := by rw [Nat.add_comm 1 i]; exact ca
    clear ca
    go_wp2
    go_ret
    exact ⟨rfl, hbw⟩
  · obtain ⟨kk, hkk⟩ := Int.eq_ofNat_of_zero_le h3
    obtain ⟨x, hx⟩ := getL p (i - kk) (by omega)
    have hx2 : leastR p i = x := by unfold leastR; rw [if_neg hk, hkk]; exact getD_of hx
    rw [hx2]
    have HX := Lib.hid hx
    clear hx hx2
    have HKK := Lib.hid hkk
    have e1 : (i : Int) - (kk : Int) = ((i - kk : Nat) : Int) := by omega
    have e2 : i - kk ≤ 2 := by omega
    have e3 : ¬ (i : Int) < (kk : Int) := by omega
    clear hkk
    go_enter Try.func44, Try.ntmps44
    go_upto_region 1 with (fail)
    have hr : Row (w.alloc (.cells #[.int .i64 p.f, .int .i64 p.k, .int .u32 p.a0, .int .u32 p.a1, .int .u32 p.a2, .int .u32 p.a3, .int .i64 p.u, .int .u32 p.l0, .int .u32 p.l1, .int .u32 p.l2] 26)) w.heap.size #[.int .i64 p.f, .int .i64 p.k, .int .u32 p.a0, .int .u32 p.a1, .int .u32 p.a2, .int .u32 p.a3, .int .i64 p.u, .int .u32 p.l0, .int .u32 p.l1, .int .u32 p.l2] 26 := Row.new _ _ _
    have hbw := below_new w (.cells #[.int .i64 p.f, .int .i64 p.k, .int .u32 p.a0, .int .u32 p.a1, .int .u32 p.a2, .int .u32 p.a3, .int .i64 p.u, .int .u32 p.l0, .int .u32 p.l1, .int .u32 p.l2] 26)
    generalize w.alloc (.cells #[.int .i64 p.f, .int .i64 p.k, .int .u32 p.a0, .int .u32 p.a1, .int .u32 p.a2, .int .u32 p.a3, .int .i64 p.u, .int .u32 p.l0, .int .u32 p.l1, .int .u32 p.l2] 26) = wc at hr hbw ⊢
    have ca := rowL hr _ _ HX.out
    obtain ⟨_, c1, _, _, _, _, _, _, _, _, _⟩ := hr.atP
    rw [HKK.out] at c1
    generalize w.heap.size = b at hr ca c1 ⊢
    generalize i - kk = d at ca e1 e2
    go_wp2
    go_ret
    exact ⟨rfl, hbw⟩
theorem check_all (f k a0 a1 a2 a3 u l0 l1 l2 : Int) (w : World) (c : Int) (hc : chk ⟨f, k, a0, a1, a2, a3, u, l0, l1, l2⟩ = c) : Calls Try.prog 22 #[.agg #[.int .i64 f, .int .i64 k, .int .u32 a0, .int .u32 a1, .int .u32 a2, .int .u32 a3, .int .i64 u, .int .u32 l0, .int .u32 l1, .int .u32 l2]] w fun e w' => e = .returned (.int .i64 c) ∧ Below w.heap.size w w' := hc ▸ check_any ⟨f, k, a0, a1, a2, a3, u, l0, l1, l2⟩ w
theorem rcheck_all (f k a0 a1 a2 a3 u l0 l1 l2 : Int) (w : World) (c : Int) (hc : chk ⟨f, k, a0, a1, a2, a3, u, l0, l1, l2⟩ = c) : Calls Try.prog 24 #[.agg #[.int .i64 f, .int .i64 k, .int .u32 a0, .int .u32 a1, .int .u32 a2, .int .u32 a3, .int .i64 u, .int .u32 l0, .int .u32 l1, .int .u32 l2]] w fun e w' => e = .returned (.int .i64 c) ∧ Below w.heap.size w w' := hc ▸ rcheck_any ⟨f, k, a0, a1, a2, a3, u, l0, l1, l2⟩ w
theorem to_all (f k a0 a1 a2 a3 u l0 l1 l2 : Int) (w : World) (c : Int) (hc : toR ⟨f, k, a0, a1, a2, a3, u, l0, l1, l2⟩ = c) : Calls Try.prog 25 #[.agg #[.int .i64 f, .int .i64 k, .int .u32 a0, .int .u32 a1, .int .u32 a2, .int .u32 a3, .int .i64 u, .int .u32 l0, .int .u32 l1, .int .u32 l2]] w fun e w' => e = .returned (.int .i64 c) ∧ Below w.heap.size w w' := hc ▸ to_any ⟨f, k, a0, a1, a2, a3, u, l0, l1, l2⟩ w
theorem rto_all (f k a0 a1 a2 a3 u l0 l1 l2 : Int) (w : World) (c : Int) (hc : toR ⟨f, k, a0, a1, a2, a3, u, l0, l1, l2⟩ = c) : Calls Try.prog 26 #[.agg #[.int .i64 f, .int .i64 k, .int .u32 a0, .int .u32 a1, .int .u32 a2, .int .u32 a3, .int .i64 u, .int .u32 l0, .int .u32 l1, .int .u32 l2]] w fun e w' => e = .returned (.int .i64 c) ∧ Below w.heap.size w w' := hc ▸ rto_any ⟨f, k, a0, a1, a2, a3, u, l0, l1, l2⟩ w
theorem least_all (f k a0 a1 a2 a3 u l0 l1 l2 : Int) (i : Nat) (hc : chk ⟨f, k, a0, a1, a2, a3, u, l0, l1, l2⟩ = 0) (hi : (i : Int) < k + u) (w : World) (x : Int) (hx : leastR ⟨f, k, a0, a1, a2, a3, u, l0, l1, l2⟩ i = x) : Calls Try.prog 44 #[.agg #[.int .i64 f, .int .i64 k, .int .u32 a0, .int .u32 a1, .int .u32 a2, .int .u32 a3, .int .i64 u, .int .u32 l0, .int .u32 l1, .int .u32 l2], .int .i64 i] w fun e w' => e = .returned (.int .u32 x) ∧ Below w.heap.size w w' := hx ▸ least_any ⟨f, k, a0, a1, a2, a3, u, l0, l1, l2⟩ i hc hi w
set_option maxHeartbeats 8000000 in
theorem le_all (f k a0 a1 a2 a3 u l0 l1 l2 f' k' a0' a1' a2' a3' u' l0' l1' l2' : Int) (w : World) : Calls Try.prog 29 #[.agg #[.int .i64 f, .int .i64 k, .int .u32 a0, .int .u32 a1, .int .u32 a2, .int .u32 a3, .int .i64 u, .int .u32 l0, .int .u32 l1, .int .u32 l2], .agg #[.int .i64 f', .int .i64 k', .int .u32 a0', .int .u32 a1', .int .u32 a2', .int .u32 a3', .int .i64 u', .int .u32 l0', .int .u32 l1', .int .u32 l2']] w fun e w' => e = .returned (.bool (leR ⟨f, k, a0, a1, a2, a3, u, l0, l1, l2⟩ ⟨f', k', a0', a1', a2', a3', u', l0', l1', l2'⟩)) ∧ Below w.heap.size w w' := by
  obtain ⟨cp, hcp⟩ : ∃ c, chk ⟨f, k, a0, a1, a2, a3, u, l0, l1, l2⟩ = c := ⟨_, rfl⟩
  obtain ⟨cq, hcq⟩ : ∃ c, chk ⟨f', k', a0', a1', a2', a3', u', l0', l1', l2'⟩ = c := ⟨_, rfl⟩
  have HCP := Lib.hid hcp
  have HCQ := Lib.hid hcq
  by_cases hp0 : cp = 0
  · subst hp0
    by_cases hq0 : cq = 0
    · subst hq0
      obtain ⟨tp, htp⟩ : ∃ t, toR ⟨f, k, a0, a1, a2, a3, u, l0, l1, l2⟩ = t := ⟨_, rfl⟩
      obtain ⟨tq, htq⟩ : ∃ t, toR ⟨f', k', a0', a1', a2', a3', u', l0', l1', l2'⟩ = t := ⟨_, rfl⟩
      have HTP := Lib.hid htp
      have HTQ := Lib.hid htq
      by_cases hf : f = f'
      · subst hf
        by_cases ht : tp = tq
        · subst ht
          by_cases hk : k' < k
          · have HR := Lib.hid (leR_no (p := ⟨f, k, a0, a1, a2, a3, u, l0, l1, l2⟩) (q := ⟨f, k', a0', a1', a2', a3', u', l0', l1', l2'⟩) (fun h => by have := h.2.2.2.2.1; simp only at this; omega))
            clear hcp hcq htp htq
            go_enter Try.func29, Try.ntmps29
            go_upto_region 1 with (fail)
            have hw : W2 w w.heap.size (w.heap.size + 1) 26 ⟨f, k, a0, a1, a2, a3, u, l0, l1, l2⟩ ⟨f, k', a0', a1', a2', a3', u', l0', l1', l2'⟩ ((w.alloc (.cells #[.int .i64 f, .int .i64 k, .int .u32 a0, .int .u32 a1, .int .u32 a2, .int .u32 a3, .int .i64 u, .int .u32 l0, .int .u32 l1, .int .u32 l2] 26)).alloc (.cells #[.int .i64 f, .int .i64 k', .int .u32 a0', .int .u32 a1', .int .u32 a2', .int .u32 a3', .int .i64 u', .int .u32 l0', .int .u32 l1', .int .u32 l2'] 26)) := W2.start w 26 ⟨f, k, a0, a1, a2, a3, u, l0, l1, l2⟩ ⟨f, k', a0', a1', a2', a3', u', l0', l1', l2'⟩
            generalize (w.alloc (.cells #[.int .i64 f, .int .i64 k, .int .u32 a0, .int .u32 a1, .int .u32 a2, .int .u32 a3, .int .i64 u, .int .u32 l0, .int .u32 l1, .int .u32 l2] 26)).alloc (.cells #[.int .i64 f, .int .i64 k', .int .u32 a0', .int .u32 a1', .int .u32 a2', .int .u32 a3', .int .i64 u', .int .u32 l0', .int .u32 l1', .int .u32 l2'] 26) = wc at hw ⊢
            generalize hA : w.heap.size = A at hw ⊢
            generalize hB : A + 1 = B at hw ⊢
            clear hB hA
            have S0 := hw.s
            clear hw
            go_upto_region 3 with (first | (go_at_call 22; (with_reducible refine (check_all f k a0 a1 a2 a3 u l0 l1 l2 _ _ HCP.out).mono ?_); rintro e w1 ⟨rfl, hb1⟩; have S1 := (W2.below hb1 S0.1).s; clear S0) | (go_at_call 22; (with_reducible refine (check_all f k' a0' a1' a2' a3' u' l0' l1' l2' _ _ HCQ.out).mono ?_); rintro e w2 ⟨rfl, hb2⟩; have S2' := (W2.below hb2 S1.1).s; clear S1))
            have hC := S2'.1.drew.s
            clear S2'
            refine region_class (S2 w A B 26 ⟨f, k, a0, a1, a2, a3, u, l0, l1, l2⟩ ⟨f, k', a0', a1', a2', a3', u', l0', l1', l2'⟩) (by kernel_rfl) (by kernel_rfl) hC ?_
            clear hC
            repeat
              (refine step_class (fun K hK => ?_)
               go_simp
               first
                 | (refine hK _ ?_; clear hK K)
                 | (with_reducible apply Hq.of
                    · intro wv hv
                      have Hv := Lib.hid hv
                      obtain ⟨hz, ⟨_, _, _, _, _, _, _, _, _, _, _⟩, ⟨_, _, _, _, _, _, _, _, _, _, _⟩⟩ := hv
                      go_simp
                      (first
                        | (with_reducible exact rfl)
                        | (go_at_call 25; (with_reducible refine (to_all f k a0 a1 a2 a3 u l0 l1 l2 _ _ HTP.out).mono ?_); rintro e w1 ⟨rfl, hb1⟩; exact ⟨rfl, s2_below hb1 Hv.out⟩)
                        | (go_at_call 25; (with_reducible refine (to_all f k' a0' a1' a2' a3' u' l0' l1' l2' _ _ HTQ.out).mono ?_); rintro e w1 ⟨rfl, hb1⟩; exact ⟨rfl, s2_below hb1 Hv.out⟩))
                    refine hK _ ?_
                    clear hK K))
            refine nil_class ?_
            intro wq hq
            obtain ⟨hz, ⟨_, _, _, _, _, _, _, _, _, _, _⟩, ⟨_, _, _, _, _, _, _, _, _, _, _⟩⟩ := hq
            go_wp2
            go_ret
            exact ⟨by rw [HR.out]; rfl, hz.z⟩
          · by_cases ha : a0' < a0
            · have HR := Lib.hid (leR_no (p := ⟨f, k, a0, a1, a2, a3, u, l0, l1, l2⟩) (q := ⟨f, k', a0', a1', a2', a3', u', l0', l1', l2'⟩) (fun h => by have := h.2.2.2.2.2.1; simp only at this; omega))
              clear hcp hcq htp htq
              go_enter Try.func29, Try.ntmps29
              go_upto_region 1 with (fail)
              have hw : W2 w w.heap.size (w.heap.size + 1) 26 ⟨f, k, a0, a1, a2, a3, u, l0, l1, l2⟩ ⟨f, k', a0', a1', a2', a3', u', l0', l1', l2'⟩ ((w.alloc (.cells #[.int .i64 f, .int .i64 k, .int .u32 a0, .int .u32 a1, .int .u32 a2, .int .u32 a3, .int .i64 u, .int .u32 l0, .int .u32 l1, .int .u32 l2] 26)).alloc (.cells #[.int .i64 f, .int .i64 k', .int .u32 a0', .int .u32 a1', .int .u32 a2', .int .u32 a3', .int .i64 u', .int .u32 l0', .int .u32 l1', .int .u32 l2'] 26)) := W2.start w 26 ⟨f, k, a0, a1, a2, a3, u, l0, l1, l2⟩ ⟨f, k', a0', a1', a2', a3', u', l0', l1', l2'⟩
              generalize (w.alloc (.cells #[.int .i64 f, .int .i64 k, .int .u32 a0, .int .u32 a1, .int .u32 a2, .int .u32 a3, .int .i64 u, .int .u32 l0, .int .u32 l1, .int .u32 l2] 26)).alloc (.cells #[.int .i64 f, .int .i64 k', .int .u32 a0', .int .u32 a1', .int .u32 a2', .int .u32 a3', .int .i64 u', .int .u32 l0', .int .u32 l1', .int .u32 l2'] 26) = wc at hw ⊢
              generalize hA : w.heap.size = A at hw ⊢
              generalize hB : A + 1 = B at hw ⊢
              clear hB hA
              have S0 := hw.s
              clear hw
              go_upto_region 3 with (first | (go_at_call 22; (with_reducible refine (check_all f k a0 a1 a2 a3 u l0 l1 l2 _ _ HCP.out).mono ?_); rintro e w1 ⟨rfl, hb1⟩; have S1 := (W2.below hb1 S0.1).s; clear S0) | (go_at_call 22; (with_reducible refine (check_all f k' a0' a1' a2' a3' u' l0' l1' l2' _ _ HCQ.out).mono ?_); rintro e w2 ⟨rfl, hb2⟩; have S2' := (W2.below hb2 S1.1).s; clear S1))
              have hC := S2'.1.drew.s
              clear S2'
              refine region_class (S2 w A B 26 ⟨f, k, a0, a1, a2, a3, u, l0, l1, l2⟩ ⟨f, k', a0', a1', a2', a3', u', l0', l1', l2'⟩) (by kernel_rfl) (by kernel_rfl) hC ?_
              clear hC
              repeat
                (refine step_class (fun K hK => ?_)
                 go_simp
                 first
                   | (refine hK _ ?_; clear hK K)
                   | (with_reducible apply Hq.of
                      · intro wv hv
                        have Hv := Lib.hid hv
                        obtain ⟨hz, ⟨_, _, _, _, _, _, _, _, _, _, _⟩, ⟨_, _, _, _, _, _, _, _, _, _, _⟩⟩ := hv
                        go_simp
                        (first
                          | (with_reducible exact rfl)
                          | (go_at_call 25; (with_reducible refine (to_all f k a0 a1 a2 a3 u l0 l1 l2 _ _ HTP.out).mono ?_); rintro e w1 ⟨rfl, hb1⟩; exact ⟨rfl, s2_below hb1 Hv.out⟩)
                          | (go_at_call 25; (with_reducible refine (to_all f k' a0' a1' a2' a3' u' l0' l1' l2' _ _ HTQ.out).mono ?_); rintro e w1 ⟨rfl, hb1⟩; exact ⟨rfl, s2_below hb1 Hv.out⟩))
                      refine hK _ ?_
                      clear hK K))
              refine nil_class ?_
              intro wq hq
              obtain ⟨hz, ⟨_, _, _, _, _, _, _, _, _, _, _⟩, ⟨_, _, _, _, _, _, _, _, _, _, _⟩⟩ := hq
              go_wp2
              go_ret
              exact ⟨by rw [HR.out]; rfl, hz.z⟩
            ·
              have e1 : tp = k + u := htp.symm.trans (toR_ok hcp)
              have e2 : tp = k' + u' := htq.symm.trans (toR_ok hcq)
              obtain ⟨q1, q2, q3, q4, q5, q6⟩ := dpt_no (chk_0 hcp)
              have k0 : 0 ≤ k := q3
              have u0 : 0 ≤ u := q5
              have u3 : u ≤ 3 - k := q6
              clear q1 q2 q3 q4 q5 q6
              have HALL := Lib.hid (And.intro hcp (And.intro hcq (And.intro htp htq)))
              clear hcp hcq htp htq
              obtain ⟨tn, rfl⟩ : ∃ tn : Nat, tp = (tn : Int) := Int.eq_ofNat_of_zero_le (by omega)
              have t3 : tn ≤ 3 := by omega
              have hkd : decide (k' < k) = false := by simp; omega
              have had : decide (a0' < a0) = false := by simp; omega
              go_enter Try.func29, Try.ntmps29
              go_upto_region 1 with (fail)
              have hw : W2 w w.heap.size (w.heap.size + 1) 26 ⟨f, k, a0, a1, a2, a3, u, l0, l1, l2⟩ ⟨f, k', a0', a1', a2', a3', u', l0', l1', l2'⟩ ((w.alloc (.cells #[.int .i64 f, .int .i64 k, .int .u32 a0, .int .u32 a1, .int .u32 a2, .int .u32 a3, .int .i64 u, .int .u32 l0, .int .u32 l1, .int .u32 l2] 26)).alloc (.cells #[.int .i64 f, .int .i64 k', .int .u32 a0', .int .u32 a1', .int .u32 a2', .int .u32 a3', .int .i64 u', .int .u32 l0', .int .u32 l1', .int .u32 l2'] 26)) := W2.start w 26 ⟨f, k, a0, a1, a2, a3, u, l0, l1, l2⟩ ⟨f, k', a0', a1', a2', a3', u', l0', l1', l2'⟩
              generalize (w.alloc (.cells #[.int .i64 f, .int .i64 k, .int .u32 a0, .int .u32 a1, .int .u32 a2, .int .u32 a3, .int .i64 u, .int .u32 l0, .int .u32 l1, .int .u32 l2] 26)).alloc (.cells #[.int .i64 f, .int .i64 k', .int .u32 a0', .int .u32 a1', .int .u32 a2', .int .u32 a3', .int .i64 u', .int .u32 l0', .int .u32 l1', .int .u32 l2'] 26) = wc at hw ⊢
              generalize hA : w.heap.size = A at hw ⊢
              generalize hB : A + 1 = B at hw ⊢
              clear hB hA
              have S0 := hw.s
              clear hw
              go_upto_region 3 with (first | (go_at_call 22; (with_reducible refine (check_all f k a0 a1 a2 a3 u l0 l1 l2 _ _ HCP.out).mono ?_); rintro e w1 ⟨rfl, hb1⟩; have S1 := (W2.below hb1 S0.1).s; clear S0) | (go_at_call 22; (with_reducible refine (check_all f k' a0' a1' a2' a3' u' l0' l1' l2' _ _ HCQ.out).mono ?_); rintro e w2 ⟨rfl, hb2⟩; have S2' := (W2.below hb2 S1.1).s; clear S1))
              have hC := S2'.1.drew.s
              clear S2'
              refine region_class (S2 w A B 26 ⟨f, k, a0, a1, a2, a3, u, l0, l1, l2⟩ ⟨f, k', a0', a1', a2', a3', u', l0', l1', l2'⟩) (by kernel_rfl) (by kernel_rfl) hC ?_
              clear hC
              repeat
                (refine step_class (fun K hK => ?_)
                 go_simp
                 first
                   | (refine hK _ ?_; clear hK K)
                   | (with_reducible apply Hq.of
                      · intro wv hv
                        have Hv := Lib.hid hv
                        obtain ⟨hz, ⟨_, _, _, _, _, _, _, _, _, _, _⟩, ⟨_, _, _, _, _, _, _, _, _, _, _⟩⟩ := hv
                        go_simp
                        (first
                          | (with_reducible exact rfl)
                          | (go_at_call 25; (with_reducible refine (to_all f k a0 a1 a2 a3 u l0 l1 l2 _ _ HTP.out).mono ?_); rintro e w1 ⟨rfl, hb1⟩; exact ⟨rfl, s2_below hb1 Hv.out⟩)
                          | (go_at_call 25; (with_reducible refine (to_all f k' a0' a1' a2' a3' u' l0' l1' l2' _ _ HTQ.out).mono ?_); rintro e w1 ⟨rfl, hb1⟩; exact ⟨rfl, s2_below hb1 Hv.out⟩))
                      refine hK _ ?_
                      clear hK K))
              refine nil_class ?_
              intro wq hq
              have HS := Lib.hid hq
              obtain ⟨hz, ⟨_, _, _, _, _, _, _, _, _, _, _⟩, ⟨_, _, _, _, _, _, _, _, _, _, _⟩⟩ := hq
              go_wp2_with (go_at_call 25; (with_reducible refine (to_all f k a0 a1 a2 a3 u l0 l1 l2 _ _ HTP.out).mono ?_); rintro e w1 ⟨rfl, hb1⟩; have S3 := s2_below hb1 HS.out; clear hb1)
              go_loopw [44] (fun i wr => ∃ j : Nat, j ≤ tn ∧ i = .int .i64 j ∧ S2 w A B 26 ⟨f, k, a0, a1, a2, a3, u, l0, l1, l2⟩ ⟨f, k', a0', a1', a2', a3', u', l0', l1', l2'⟩ wr ∧ Hid (∀ t, t < j → leastR ⟨f, k, a0, a1, a2, a3, u, l0, l1, l2⟩ t ≤ leastR ⟨f, k', a0', a1', a2', a3', u', l0', l1', l2'⟩ t)) (fun i _ => tn - (intOf i).toNat)
              case atStart => exact ⟨0, Nat.zero_le _, rfl, S3, fun t ht => absurd ht (Nat.not_lt_zero _)⟩
              case round =>
                clear S3 HS hz
                obtain ⟨j, hj, rfl, hS, hno⟩ := hrel
                by_cases hlt : j < tn
                · obtain ⟨x, hx⟩ : ∃ x, leastR ⟨f, k, a0, a1, a2, a3, u, l0, l1, l2⟩ j = x := ⟨_, rfl⟩
                  obtain ⟨y, hy⟩ : ∃ y, leastR ⟨f, k', a0', a1', a2', a3', u', l0', l1', l2'⟩ j = y := ⟨_, rfl⟩
                  have HX := Lib.hid hx
                  have HY := Lib.hid hy
                  have HJ := Lib.hid (And.intro (show (j : Int) < k + u by omega) (show (j : Int) < k' + u' by omega))
                  have hjd : (j : Int) < (tn : Int) := by omega
                  by_cases hxy : y < x
                  · have HR := Lib.hid (leR_no (p := ⟨f, k, a0, a1, a2, a3, u, l0, l1, l2⟩) (q := ⟨f, k', a0', a1', a2', a3', u', l0', l1', l2'⟩) (fun h => by have := h.2.2.2.2.2.2 j (List.mem_range.2 (by omega)) (by rw [HALL.out.2.2.1]; omega); rw [HX.out, HY.out] at this; omega))
                    clear hx hy hno HALL
                    go_upto_region 8 with (fail)
                    refine region_class (S2 w A B 26 ⟨f, k, a0, a1, a2, a3, u, l0, l1, l2⟩ ⟨f, k', a0', a1', a2', a3', u', l0', l1', l2'⟩) (by kernel_rfl) (by kernel_rfl) hS.1.drew.s ?_
                    clear hS
                    repeat
                      (refine step_class (fun K hK => ?_)
                       go_simp
                       first
                         | (refine hK _ ?_; clear hK K)
                         | (with_reducible apply Hq.of
                            · intro wv hv
                              have Hv := Lib.hid hv
                              obtain ⟨hz, ⟨_, _, _, _, _, _, _, _, _, _, _⟩, ⟨_, _, _, _, _, _, _, _, _, _, _⟩⟩ := hv
                              go_simp
                              (first
                                | (with_reducible exact rfl)
                                | (go_at_call 44; (with_reducible refine (least_all f k a0 a1 a2 a3 u l0 l1 l2 _ HCP.out HJ.out.1 _ _ HX.out).mono ?_); rintro e w1 ⟨rfl, hb1⟩; exact ⟨rfl, s2_below hb1 Hv.out⟩)
                                | (go_at_call 44; (with_reducible refine (least_all f k' a0' a1' a2' a3' u' l0' l1' l2' _ HCQ.out HJ.out.2 _ _ HY.out).mono ?_); rintro e w1 ⟨rfl, hb1⟩; exact ⟨rfl, s2_below hb1 Hv.out⟩))
                            refine hK _ ?_
                            clear hK K))
                    refine nil_class ?_
                    intro wq hq
                    obtain ⟨hz, ⟨_, _, _, _, _, _, _, _, _, _, _⟩, ⟨_, _, _, _, _, _, _, _, _, _, _⟩⟩ := hq
                    go_wp2
                    go_ret
                    exact ⟨by rw [HR.out]; rfl, hz.z⟩
                  · have hxd : decide (y < x) = false := by simp; omega
                    have hno' : Hid (∀ t, t < j + 1 → leastR ⟨f, k, a0, a1, a2, a3, u, l0, l1, l2⟩ t ≤ leastR ⟨f, k', a0', a1', a2', a3', u', l0', l1', l2'⟩ t) := by
                      intro t ht
                      by_cases e : t = j
                      · subst e; rw [hx, hy]; omega
                      · exact hno.out t (by omega)
                    clear hx hy hno
                    go_upto_region 8 with (fail)
                    refine region_class (S2 w A B 26 ⟨f, k, a0, a1, a2, a3, u, l0, l1, l2⟩ ⟨f, k', a0', a1', a2', a3', u', l0', l1', l2'⟩) (by kernel_rfl) (by kernel_rfl) hS.1.drew.s ?_
                    clear hS
                    repeat
                      (refine step_class (fun K hK => ?_)
                       go_simp
                       first
                         | (refine hK _ ?_; clear hK K)
                         | (with_reducible apply Hq.of
                            · intro wv hv
                              have Hv := Lib.hid hv
                              obtain ⟨hz, ⟨_, _, _, _, _, _, _, _, _, _, _⟩, ⟨_, _, _, _, _, _, _, _, _, _, _⟩⟩ := hv
                              go_simp
                              (first
                                | (with_reducible exact rfl)
                                | (go_at_call 44; (with_reducible refine (least_all f k a0 a1 a2 a3 u l0 l1 l2 _ HCP.out HJ.out.1 _ _ HX.out).mono ?_); rintro e w1 ⟨rfl, hb1⟩; exact ⟨rfl, s2_below hb1 Hv.out⟩)
                                | (go_at_call 44; (with_reducible refine (least_all f k' a0' a1' a2' a3' u' l0' l1' l2' _ HCQ.out HJ.out.2 _ _ HY.out).mono ?_); rintro e w1 ⟨rfl, hb1⟩; exact ⟨rfl, s2_below hb1 Hv.out⟩))
                            refine hK _ ?_
                            clear hK K))
                    refine nil_class ?_
                    intro wq hq
                    have HSq := Lib.hid hq
                    obtain ⟨hz, ⟨_, _, _, _, _, _, _, _, _, _, _⟩, ⟨_, _, _, _, _, _, _, _, _, _, _⟩⟩ := hq
                    go_wp2
                    go_roundw
                    case rel => exact ⟨j + 1, by omega, by go_num, HSq.out, hno'⟩
                    case measure => simp [intOf]; omega
                · obtain rfl : j = tn := by omega
                  have HR := Lib.hid (leR_yes (p := ⟨f, k, a0, a1, a2, a3, u, l0, l1, l2⟩) (q := ⟨f, k', a0', a1', a2', a3', u', l0', l1', l2'⟩) ⟨HALL.out.1, HALL.out.2.1, rfl, HALL.out.2.2.1.trans HALL.out.2.2.2.symm, by show k ≤ k'; omega, by show a0 ≤ a0'; omega, fun i _ hi => hno.out i (by rw [HALL.out.2.2.1] at hi; omega)⟩)
                  have hjd : decide ((j : Int) < (j : Int)) = false := by simp
                  obtain ⟨hz, ⟨_, _, _, _, _, _, _, _, _, _, _⟩, ⟨_, _, _, _, _, _, _, _, _, _, _⟩⟩ := hS
                  clear hno HALL
                  go_wp2
                  go_ret
                  exact ⟨by rw [HR.out]; rfl, hz.z⟩
        · have HR := Lib.hid (leR_no (p := ⟨f, k, a0, a1, a2, a3, u, l0, l1, l2⟩) (q := ⟨f, k', a0', a1', a2', a3', u', l0', l1', l2'⟩) (fun h => ht (by rw [← htp, ← htq]; exact h.2.2.2.1)))
          have ht1 : (tp != tq) = true := by simp [ht]
          clear hcp hcq htp htq ht
          go_enter Try.func29, Try.ntmps29
          go_upto_region 1 with (fail)
          have hw : W2 w w.heap.size (w.heap.size + 1) 26 ⟨f, k, a0, a1, a2, a3, u, l0, l1, l2⟩ ⟨f, k', a0', a1', a2', a3', u', l0', l1', l2'⟩ ((w.alloc (.cells #[.int .i64 f, .int .i64 k, .int .u32 a0, .int .u32 a1, .int .u32 a2, .int .u32 a3, .int .i64 u, .int .u32 l0, .int .u32 l1, .int .u32 l2] 26)).alloc (.cells #[.int .i64 f, .int .i64 k', .int .u32 a0', .int .u32 a1', .int .u32 a2', .int .u32 a3', .int .i64 u', .int .u32 l0', .int .u32 l1', .int .u32 l2'] 26)) := W2.start w 26 ⟨f, k, a0, a1, a2, a3, u, l0, l1, l2⟩ ⟨f, k', a0', a1', a2', a3', u', l0', l1', l2'⟩
          generalize (w.alloc (.cells #[.int .i64 f, .int .i64 k, .int .u32 a0, .int .u32 a1, .int .u32 a2, .int .u32 a3, .int .i64 u, .int .u32 l0, .int .u32 l1, .int .u32 l2] 26)).alloc (.cells #[.int .i64 f, .int .i64 k', .int .u32 a0', .int .u32 a1', .int .u32 a2', .int .u32 a3', .int .i64 u', .int .u32 l0', .int .u32 l1', .int .u32 l2'] 26) = wc at hw ⊢
          generalize hA : w.heap.size = A at hw ⊢
          generalize hB : A + 1 = B at hw ⊢
          clear hB hA
          have S0 := hw.s
          clear hw
          go_upto_region 3 with (first | (go_at_call 22; (with_reducible refine (check_all f k a0 a1 a2 a3 u l0 l1 l2 _ _ HCP.out).mono ?_); rintro e w1 ⟨rfl, hb1⟩; have S1 := (W2.below hb1 S0.1).s; clear S0) | (go_at_call 22; (with_reducible refine (check_all f k' a0' a1' a2' a3' u' l0' l1' l2' _ _ HCQ.out).mono ?_); rintro e w2 ⟨rfl, hb2⟩; have S2' := (W2.below hb2 S1.1).s; clear S1))
          have hC := S2'.1.drew.s
          clear S2'
          refine region_class (S2 w A B 26 ⟨f, k, a0, a1, a2, a3, u, l0, l1, l2⟩ ⟨f, k', a0', a1', a2', a3', u', l0', l1', l2'⟩) (by kernel_rfl) (by kernel_rfl) hC ?_
          clear hC
          repeat
            (refine step_class (fun K hK => ?_)
             go_simp
             first
               | (refine hK _ ?_; clear hK K)
               | (with_reducible apply Hq.of
                  · intro wv hv
                    have Hv := Lib.hid hv
                    obtain ⟨hz, ⟨_, _, _, _, _, _, _, _, _, _, _⟩, ⟨_, _, _, _, _, _, _, _, _, _, _⟩⟩ := hv
                    go_simp
                    (first
                      | (with_reducible exact rfl)
                      | (go_at_call 25; (with_reducible refine (to_all f k a0 a1 a2 a3 u l0 l1 l2 _ _ HTP.out).mono ?_); rintro e w1 ⟨rfl, hb1⟩; exact ⟨rfl, s2_below hb1 Hv.out⟩)
                      | (go_at_call 25; (with_reducible refine (to_all f k' a0' a1' a2' a3' u' l0' l1' l2' _ _ HTQ.out).mono ?_); rintro e w1 ⟨rfl, hb1⟩; exact ⟨rfl, s2_below hb1 Hv.out⟩))
                  refine hK _ ?_
                  clear hK K))
          refine nil_class ?_
          intro wq hq
          obtain ⟨hz, ⟨_, _, _, _, _, _, _, _, _, _, _⟩, ⟨_, _, _, _, _, _, _, _, _, _, _⟩⟩ := hq
          go_wp2
          go_ret
          exact ⟨by rw [HR.out]; rfl, hz.z⟩
      · have HR := Lib.hid (leR_no (p := ⟨f, k, a0, a1, a2, a3, u, l0, l1, l2⟩) (q := ⟨f', k', a0', a1', a2', a3', u', l0', l1', l2'⟩) (fun h => hf h.2.2.1))
        have hf1 : (f != f') = true := by simp [hf]
        clear hcp hcq htp htq hf
        go_enter Try.func29, Try.ntmps29
        go_upto_region 1 with (fail)
        have hw : W2 w w.heap.size (w.heap.size + 1) 26 ⟨f, k, a0, a1, a2, a3, u, l0, l1, l2⟩ ⟨f', k', a0', a1', a2', a3', u', l0', l1', l2'⟩ ((w.alloc (.cells #[.int .i64 f, .int .i64 k, .int .u32 a0, .int .u32 a1, .int .u32 a2, .int .u32 a3, .int .i64 u, .int .u32 l0, .int .u32 l1, .int .u32 l2] 26)).alloc (.cells #[.int .i64 f', .int .i64 k', .int .u32 a0', .int .u32 a1', .int .u32 a2', .int .u32 a3', .int .i64 u', .int .u32 l0', .int .u32 l1', .int .u32 l2'] 26)) := W2.start w 26 ⟨f, k, a0, a1, a2, a3, u, l0, l1, l2⟩ ⟨f', k', a0', a1', a2', a3', u', l0', l1', l2'⟩
        generalize (w.alloc (.cells #[.int .i64 f, .int .i64 k, .int .u32 a0, .int .u32 a1, .int .u32 a2, .int .u32 a3, .int .i64 u, .int .u32 l0, .int .u32 l1, .int .u32 l2] 26)).alloc (.cells #[.int .i64 f', .int .i64 k', .int .u32 a0', .int .u32 a1', .int .u32 a2', .int .u32 a3', .int .i64 u', .int .u32 l0', .int .u32 l1', .int .u32 l2'] 26) = wc at hw ⊢
        generalize hA : w.heap.size = A at hw ⊢
        generalize hB : A + 1 = B at hw ⊢
        clear hB hA
        have S0 := hw.s
        clear hw
        go_upto_region 3 with (first | (go_at_call 22; (with_reducible refine (check_all f k a0 a1 a2 a3 u l0 l1 l2 _ _ HCP.out).mono ?_); rintro e w1 ⟨rfl, hb1⟩; have S1 := (W2.below hb1 S0.1).s; clear S0) | (go_at_call 22; (with_reducible refine (check_all f' k' a0' a1' a2' a3' u' l0' l1' l2' _ _ HCQ.out).mono ?_); rintro e w2 ⟨rfl, hb2⟩; have S2' := (W2.below hb2 S1.1).s; clear S1))
        have hC := S2'.1.drew.s
        clear S2'
        refine region_class (S2 w A B 26 ⟨f, k, a0, a1, a2, a3, u, l0, l1, l2⟩ ⟨f', k', a0', a1', a2', a3', u', l0', l1', l2'⟩) (by kernel_rfl) (by kernel_rfl) hC ?_
        clear hC
        repeat
          (refine step_class (fun K hK => ?_)
           go_simp
           first
             | (refine hK _ ?_; clear hK K)
             | (with_reducible apply Hq.of
                · intro wv hv
                  have Hv := Lib.hid hv
                  obtain ⟨hz, ⟨_, _, _, _, _, _, _, _, _, _, _⟩, ⟨_, _, _, _, _, _, _, _, _, _, _⟩⟩ := hv
                  go_simp
                  (first
                    | (with_reducible exact rfl)
                    | (go_at_call 25; (with_reducible refine (to_all f k a0 a1 a2 a3 u l0 l1 l2 _ _ HTP.out).mono ?_); rintro e w1 ⟨rfl, hb1⟩; exact ⟨rfl, s2_below hb1 Hv.out⟩)
                    | (go_at_call 25; (with_reducible refine (to_all f' k' a0' a1' a2' a3' u' l0' l1' l2' _ _ HTQ.out).mono ?_); rintro e w1 ⟨rfl, hb1⟩; exact ⟨rfl, s2_below hb1 Hv.out⟩))
                refine hK _ ?_
                clear hK K))
        refine nil_class ?_
        intro wq hq
        obtain ⟨hz, ⟨_, _, _, _, _, _, _, _, _, _, _⟩, ⟨_, _, _, _, _, _, _, _, _, _, _⟩⟩ := hq
        go_wp2
        go_ret
        exact ⟨by rw [HR.out]; rfl, hz.z⟩
    · have HR := Lib.hid (leR_no (p := ⟨f, k, a0, a1, a2, a3, u, l0, l1, l2⟩) (q := ⟨f', k', a0', a1', a2', a3', u', l0', l1', l2'⟩) (fun h => hq0 (hcq ▸ h.2.1)))
      have h1 : (cq != 0) = true := by simp [hq0]
      clear hcp hcq hq0
      go_enter Try.func29, Try.ntmps29
      go_upto_region 1 with (fail)
      have hw : W2 w w.heap.size (w.heap.size + 1) 26 ⟨f, k, a0, a1, a2, a3, u, l0, l1, l2⟩ ⟨f', k', a0', a1', a2', a3', u', l0', l1', l2'⟩ ((w.alloc (.cells #[.int .i64 f, .int .i64 k, .int .u32 a0, .int .u32 a1, .int .u32 a2, .int .u32 a3, .int .i64 u, .int .u32 l0, .int .u32 l1, .int .u32 l2] 26)).alloc (.cells #[.int .i64 f', .int .i64 k', .int .u32 a0', .int .u32 a1', .int .u32 a2', .int .u32 a3', .int .i64 u', .int .u32 l0', .int .u32 l1', .int .u32 l2'] 26)) := W2.start w 26 ⟨f, k, a0, a1, a2, a3, u, l0, l1, l2⟩ ⟨f', k', a0', a1', a2', a3', u', l0', l1', l2'⟩
      generalize (w.alloc (.cells #[.int .i64 f, .int .i64 k, .int .u32 a0, .int .u32 a1, .int .u32 a2, .int .u32 a3, .int .i64 u, .int .u32 l0, .int .u32 l1, .int .u32 l2] 26)).alloc (.cells #[.int .i64 f', .int .i64 k', .int .u32 a0', .int .u32 a1', .int .u32 a2', .int .u32 a3', .int .i64 u', .int .u32 l0', .int .u32 l1', .int .u32 l2'] 26) = wc at hw ⊢
      generalize hA : w.heap.size = A at hw ⊢
      generalize hB : A + 1 = B at hw ⊢
      clear hB hA
      have S0 := hw.s
      clear hw
      go_wp2_with (first | (go_at_call 22; (with_reducible refine (check_all f k a0 a1 a2 a3 u l0 l1 l2 _ _ HCP.out).mono ?_); rintro e w1 ⟨rfl, hb1⟩; have S1 := (W2.below hb1 S0.1).s; clear S0) | (go_at_call 22; (with_reducible refine (check_all f' k' a0' a1' a2' a3' u' l0' l1' l2' _ _ HCQ.out).mono ?_); rintro e w2 ⟨rfl, hb2⟩; have S2' := (W2.below hb2 S1.1).s; clear S1))
      go_ret
      exact ⟨by rw [HR.out]; rfl, S2'.1.z⟩
  · have HR := Lib.hid (leR_no (p := ⟨f, k, a0, a1, a2, a3, u, l0, l1, l2⟩) (q := ⟨f', k', a0', a1', a2', a3', u', l0', l1', l2'⟩) (fun h => hp0 (hcp ▸ h.1)))
    have h1 : (cp != 0) = true := by simp [hp0]
    clear hcp hcq hp0
    go_enter Try.func29, Try.ntmps29
    go_upto_region 1 with (fail)
    have hw : W2 w w.heap.size (w.heap.size + 1) 26 ⟨f, k, a0, a1, a2, a3, u, l0, l1, l2⟩ ⟨f', k', a0', a1', a2', a3', u', l0', l1', l2'⟩ ((w.alloc (.cells #[.int .i64 f, .int .i64 k, .int .u32 a0, .int .u32 a1, .int .u32 a2, .int .u32 a3, .int .i64 u, .int .u32 l0, .int .u32 l1, .int .u32 l2] 26)).alloc (.cells #[.int .i64 f', .int .i64 k', .int .u32 a0', .int .u32 a1', .int .u32 a2', .int .u32 a3', .int .i64 u', .int .u32 l0', .int .u32 l1', .int .u32 l2'] 26)) := W2.start w 26 ⟨f, k, a0, a1, a2, a3, u, l0, l1, l2⟩ ⟨f', k', a0', a1', a2', a3', u', l0', l1', l2'⟩
    generalize (w.alloc (.cells #[.int .i64 f, .int .i64 k, .int .u32 a0, .int .u32 a1, .int .u32 a2, .int .u32 a3, .int .i64 u, .int .u32 l0, .int .u32 l1, .int .u32 l2] 26)).alloc (.cells #[.int .i64 f', .int .i64 k', .int .u32 a0', .int .u32 a1', .int .u32 a2', .int .u32 a3', .int .i64 u', .int .u32 l0', .int .u32 l1', .int .u32 l2'] 26) = wc at hw ⊢
    generalize hA : w.heap.size = A at hw ⊢
    generalize hB : A + 1 = B at hw ⊢
    clear hB hA
    have S0 := hw.s
    clear hw
    go_wp2_with (first | (go_at_call 22; (with_reducible refine (check_all f k a0 a1 a2 a3 u l0 l1 l2 _ _ HCP.out).mono ?_); rintro e w1 ⟨rfl, hb1⟩; have S1 := (W2.below hb1 S0.1).s; clear S0) | (go_at_call 22; (with_reducible refine (check_all f' k' a0' a1' a2' a3' u' l0' l1' l2' _ _ HCQ.out).mono ?_); rintro e w2 ⟨rfl, hb2⟩; have S2' := (W2.below hb2 S1.1).s; clear S1))
    go_ret
    exact ⟨by rw [HR.out]; rfl, S1.1.z⟩
end Go.Proofs.Ytfmnbkcjibhloaa
