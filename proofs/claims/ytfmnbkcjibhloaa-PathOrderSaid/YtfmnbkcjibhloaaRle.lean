/- LE of two ways, the reference's. No condition. -/
import Derived.Test.YtfmnbkcjibhloaaLe
namespace Go.Proofs.Ytfmnbkcjibhloaa
open Go.RowKit
set_option linter.unusedVariables false
set_option linter.unusedSimpArgs false
theorem leastR_lt {p : Pa} {i : Nat} {x : Int} (h : (i : Int) < p.k) (hx : p.al[i + 1]? = some x) : leastR p i = x := by unfold leastR; rw [if_pos h]; exact getD_of hx
theorem leastR_ge {p : Pa} {i : Nat} {x : Int} (h : ¬ (i : Int) < p.k) (hx : p.ll[i - p.k.toNat]? = some x) : leastR p i = x := by unfold leastR; rw [if_neg h]; exact getD_of hx
theorem leR_iff {p q : Pa} : leR p q = true ↔ (chk p = 0 ∧ chk q = 0 ∧ p.f = q.f ∧ toR p = toR q ∧ p.k ≤ q.k ∧ p.a0 ≤ q.a0 ∧ ∀ i ∈ List.range 3, (i : Int) < toR p → leastR p i ≤ leastR q i) := by
  unfold leR; exact decide_eq_true_iff
theorem leR_true {p q : Pa} (h1 : chk p = 0) (h2 : chk q = 0) (h3 : p.f = q.f) (h4 : toR p = toR q) (h5 : p.k ≤ q.k)
    (i1 : ∀ (t : Nat) (x y : Int), (t : Int) ≤ p.k → p.al[t]? = some x → q.al[t]? = some y → x ≤ y)
    (i2 : ∀ t : Nat, p.k ≤ t → (t : Int) < toR p → leastR p t ≤ leastR q t) : leR p q = true := by
  obtain ⟨q1, q2, q3, q4, q5, q6⟩ := dpt_no (chk_0 h1)
  refine leR_iff.2 ⟨h1, h2, h3, h4, h5, i1 0 p.a0 q.a0 (by omega) rfl rfl, fun i hi hl => ?_⟩
  have hi3 := List.mem_range.1 hi
  by_cases hk : (i : Int) < p.k
  · obtain ⟨x, hx⟩ := getA p (i + 1) (by omega)
    obtain ⟨y, hy⟩ := getA q (i + 1) (by omega)
    rw [leastR_lt hk hx, leastR_lt (by omega) hy]
    exact i1 (i + 1) x y (by omega) hx hy
  · exact i2 i (by omega) hl
theorem leR_fal_a {p q : Pa} (t : Nat) (x y : Int) (hc : chk p = 0) (h5 : p.k ≤ q.k) (ht : (t : Int) ≤ p.k) (hx : p.al[t]? = some x) (hy : q.al[t]? = some y) (hxy : y < x) : leR p q = false := by
  rcases hb : leR p q with _ | _
  · rfl
  · exfalso
    obtain ⟨_, _, _, _, _, ha, hl⟩ := leR_iff.1 hb
    obtain ⟨q1, q2, q3, q4, q5, q6⟩ := dpt_no (chk_0 hc)
    rcases t with _ | t
    · cases hx; cases hy; omega
    · have := hl t (List.mem_range.2 (by omega)) (by rw [toR_ok hc]; omega)
      rw [leastR_lt (by omega) hx, leastR_lt (by omega) hy] at this
      omega
theorem leR_fal_l {p q : Pa} (t : Nat) (hc : chk p = 0) (ht : (t : Int) < toR p) (hxy : leastR q t < leastR p t) : leR p q = false := by
  rcases hb : leR p q with _ | _
  · rfl
  · exfalso
    obtain ⟨_, _, _, _, _, ha, hl⟩ := leR_iff.1 hb
    obtain ⟨q1, q2, q3, q4, q5, q6⟩ := dpt_no (chk_0 hc)
    have h2 := toR_ok hc
    have := hl t (List.mem_range.2 (by omega)) ht
    omega
set_option maxHeartbeats 16000000 in
theorem rle_all (f k a0 a1 a2 a3 u l0 l1 l2 f' k' a0' a1' a2' a3' u' l0' l1' l2' : Int) (w : World) : Calls Try.prog 30 #[.agg #[.int .i64 f, .int .i64 k, .int .u32 a0, .int .u32 a1, .int .u32 a2, .int .u32 a3, .int .i64 u, .int .u32 l0, .int .u32 l1, .int .u32 l2], .agg #[.int .i64 f', .int .i64 k', .int .u32 a0', .int .u32 a1', .int .u32 a2', .int .u32 a3', .int .i64 u', .int .u32 l0', .int .u32 l1', .int .u32 l2']] w fun e w' => e = .returned (.bool (leR ⟨f, k, a0, a1, a2, a3, u, l0, l1, l2⟩ ⟨f', k', a0', a1', a2', a3', u', l0', l1', l2'⟩)) ∧ Below w.heap.size w w' := by
  obtain ⟨cp, hcp⟩ : ∃ c, chk ⟨f, k, a0, a1, a2, a3, u, l0, l1, l2⟩ = c := ⟨_, rfl⟩
  obtain ⟨cq, hcq⟩ : ∃ c, chk ⟨f', k', a0', a1', a2', a3', u', l0', l1', l2'⟩ = c := ⟨_, rfl⟩
  have HCP := Lib.hid hcp
  have HCQ := Lib.hid hcq
  by_cases hp0 : cp = 0
  · subst hp0
    by_cases hq0 : cq = 0
    · subst hq0
      obtain ⟨tp, htp⟩ : ∃ t, toR ⟨f, k, a0, a1, a2, a3, u, l0, l1, l2⟩ = t := ⟨_, rfl⟩
      obtain ⟨tq, htq⟩ : ∃ t, toR ⟨f', k', a0', a1', a2', a3', u', l0', l1', l2'⟩ = t := ⟨_, rfl⟩
      have HTP := Lib.hid htp
      have HTQ := Lib.hid htq
      by_cases hf : f = f'
      · subst hf
        by_cases ht : tp = tq
        · subst ht
          by_cases hk : k' < k
          · have HR := Lib.hid (leR_no (p := ⟨f, k, a0, a1, a2, a3, u, l0, l1, l2⟩) (q := ⟨f, k', a0', a1', a2', a3', u', l0', l1', l2'⟩) (fun h => by have := h.2.2.2.2.1; simp only at this; omega))
            clear hcp hcq htp htq
            go_enter Try.func30, Try.ntmps30
            go_upto_region 1 with (fail)
            have hw : W2 w w.heap.size (w.heap.size + 1) 30 ⟨f, k, a0, a1, a2, a3, u, l0, l1, l2⟩ ⟨f, k', a0', a1', a2', a3', u', l0', l1', l2'⟩ ((w.alloc (.cells #[.int .i64 f, .int .i64 k, .int .u32 a0, .int .u32 a1, .int .u32 a2, .int .u32 a3, .int .i64 u, .int .u32 l0, .int .u32 l1, .int .u32 l2] 30)).alloc (.cells #[.int .i64 f, .int .i64 k', .int .u32 a0', .int .u32 a1', .int .u32 a2', .int .u32 a3', .int .i64 u', .int .u32 l0', .int .u32 l1', .int .u32 l2'] 30)) := W2.start w 30 ⟨f, k, a0, a1, a2, a3, u, l0, l1, l2⟩ ⟨f, k', a0', a1', a2', a3', u', l0', l1', l2'⟩
            generalize (w.alloc (.cells #[.int .i64 f, .int .i64 k, .int .u32 a0, .int .u32 a1, .int .u32 a2, .int .u32 a3, .int .i64 u, .int .u32 l0, .int .u32 l1, .int .u32 l2] 30)).alloc (.cells #[.int .i64 f, .int .i64 k', .int .u32 a0', .int .u32 a1', .int .u32 a2', .int .u32 a3', .int .i64 u', .int .u32 l0', .int .u32 l1', .int .u32 l2'] 30) = wc at hw ⊢
            generalize hA : w.heap.size = A at hw ⊢
            generalize hB : A + 1 = B at hw ⊢
            clear hB hA
            have hC := hw.drew.s
            clear hw
            refine region_class (S2 w A B 30 ⟨f, k, a0, a1, a2, a3, u, l0, l1, l2⟩ ⟨f, k', a0', a1', a2', a3', u', l0', l1', l2'⟩) (by kernel_rfl) (by kernel_rfl) hC ?_
            clear hC
            repeat
              (refine step_class (fun K hK => ?_)
               go_simp
               first
                 | (refine hK _ ?_; clear hK K)
                 | (with_reducible apply Hq.of
                    · intro wv hv
                      have Hv := Lib.hid hv
                      obtain ⟨hz, ⟨_, _, _, _, _, _, _, _, _, _, _⟩, ⟨_, _, _, _, _, _, _, _, _, _, _⟩⟩ := hv
                      go_simp
                      (first
                        | (with_reducible exact rfl)
                        | (go_at_call 24; (with_reducible refine (rcheck_all f k a0 a1 a2 a3 u l0 l1 l2 _ _ HCP.out).mono ?_); rintro e w1 ⟨rfl, hb1⟩; exact ⟨rfl, s2_below hb1 Hv.out⟩)
                        | (go_at_call 24; (with_reducible refine (rcheck_all f k' a0' a1' a2' a3' u' l0' l1' l2' _ _ HCQ.out).mono ?_); rintro e w1 ⟨rfl, hb1⟩; exact ⟨rfl, s2_below hb1 Hv.out⟩)
                        | (go_at_call 26; (with_reducible refine (rto_all f k a0 a1 a2 a3 u l0 l1 l2 _ _ HTP.out).mono ?_); rintro e w1 ⟨rfl, hb1⟩; exact ⟨rfl, s2_below hb1 Hv.out⟩)
                        | (go_at_call 26; (with_reducible refine (rto_all f k' a0' a1' a2' a3' u' l0' l1' l2' _ _ HTQ.out).mono ?_); rintro e w1 ⟨rfl, hb1⟩; exact ⟨rfl, s2_below hb1 Hv.out⟩))
                    refine hK _ ?_
                    clear hK K))
            refine nil_class ?_
            intro wq hq
            have HS := Lib.hid hq
            obtain ⟨hz, ⟨_, _, _, _, _, _, _, _, _, _, _⟩, ⟨_, _, _, _, _, _, _, _, _, _, _⟩⟩ := hq
            go_wp2
            go_ret
            exact ⟨by rw [HR.out]; rfl, hz.z⟩
          ·
            have e1 : tp = k + u := htp.symm.trans (toR_ok hcp)
            have e2 : tp = k' + u' := htq.symm.trans (toR_ok hcq)
            obtain ⟨q1, q2, q3, q4, q5, q6⟩ := dpt_no (chk_0 hcp)
            have k0 : 0 ≤ k := q3
            have u0 : 0 ≤ u := q5
            have u3 : u ≤ 3 - k := q6
            clear q1 q2 q3 q4 q5 q6
            obtain ⟨q1, q2, q3, q4, q5, q6⟩ := dpt_no (chk_0 hcq)
            have u0' : 0 ≤ u' := q5
            clear q1 q2 q3 q4 q5 q6
            have HALL := Lib.hid (And.intro hcp (And.intro hcq (And.intro htp htq)))
            clear hcp hcq htp htq
            obtain ⟨tn, rfl⟩ : ∃ tn : Nat, tp = (tn : Int) := Int.eq_ofNat_of_zero_le (by omega)
            obtain ⟨kn, rfl⟩ : ∃ kn : Nat, k = (kn : Int) := Int.eq_ofNat_of_zero_le (by omega)
            obtain ⟨kn', rfl⟩ : ∃ kn' : Nat, k' = (kn' : Int) := Int.eq_ofNat_of_zero_le (by omega)
            have t3 : tn ≤ 3 := by omega
            have hkt : kn ≤ tn := by omega
            have hkt' : kn' ≤ tn := by omega
            have hkk : kn ≤ kn' := by omega
            clear e1 e2 k0 u0 u3 u0'
            have hkd : decide ((kn' : Int) < (kn : Int)) = false := by simp; omega
            go_enter Try.func30, Try.ntmps30
            go_upto_region 1 with (fail)
            have hw : W2 w w.heap.size (w.heap.size + 1) 30 ⟨f, (kn : Int), a0, a1, a2, a3, u, l0, l1, l2⟩ ⟨f, (kn' : Int), a0', a1', a2', a3', u', l0', l1', l2'⟩ ((w.alloc (.cells #[.int .i64 f, .int .i64 (kn : Int), .int .u32 a0, .int .u32 a1, .int .u32 a2, .int .u32 a3, .int .i64 u, .int .u32 l0, .int .u32 l1, .int .u32 l2] 30)).alloc (.cells #[.int .i64 f, .int .i64 (kn' : Int), .int .u32 a0', .int .u32 a1', .int .u32 a2', .int .u32 a3', .int .i64 u', .int .u32 l0', .int .u32 l1', .int .u32 l2'] 30)) := W2.start w 30 ⟨f, (kn : Int), a0, a1, a2, a3, u, l0, l1, l2⟩ ⟨f, (kn' : Int), a0', a1', a2', a3', u', l0', l1', l2'⟩
            generalize (w.alloc (.cells #[.int .i64 f, .int .i64 (kn : Int), .int .u32 a0, .int .u32 a1, .int .u32 a2, .int .u32 a3, .int .i64 u, .int .u32 l0, .int .u32 l1, .int .u32 l2] 30)).alloc (.cells #[.int .i64 f, .int .i64 (kn' : Int), .int .u32 a0', .int .u32 a1', .int .u32 a2', .int .u32 a3', .int .i64 u', .int .u32 l0', .int .u32 l1', .int .u32 l2'] 30) = wc at hw ⊢
            generalize hA : w.heap.size = A at hw ⊢
            generalize hB : A + 1 = B at hw ⊢
            clear hB hA
            have hC := hw.drew.s
            clear hw
            refine region_class (S2 w A B 30 ⟨f, (kn : Int), a0, a1, a2, a3, u, l0, l1, l2⟩ ⟨f, (kn' : Int), a0', a1', a2', a3', u', l0', l1', l2'⟩) (by kernel_rfl) (by kernel_rfl) hC ?_
            clear hC
            repeat
              (refine step_class (fun K hK => ?_)
               go_simp
               first
                 | (refine hK _ ?_; clear hK K)
                 | (with_reducible apply Hq.of
                    · intro wv hv
                      have Hv := Lib.hid hv
                      obtain ⟨hz, ⟨_, _, _, _, _, _, _, _, _, _, _⟩, ⟨_, _, _, _, _, _, _, _, _, _, _⟩⟩ := hv
                      go_simp
                      (first
                        | (with_reducible exact rfl)
                        | (go_at_call 24; (with_reducible refine (rcheck_all f (kn : Int) a0 a1 a2 a3 u l0 l1 l2 _ _ HCP.out).mono ?_); rintro e w1 ⟨rfl, hb1⟩; exact ⟨rfl, s2_below hb1 Hv.out⟩)
                        | (go_at_call 24; (with_reducible refine (rcheck_all f (kn' : Int) a0' a1' a2' a3' u' l0' l1' l2' _ _ HCQ.out).mono ?_); rintro e w1 ⟨rfl, hb1⟩; exact ⟨rfl, s2_below hb1 Hv.out⟩)
                        | (go_at_call 26; (with_reducible refine (rto_all f (kn : Int) a0 a1 a2 a3 u l0 l1 l2 _ _ HTP.out).mono ?_); rintro e w1 ⟨rfl, hb1⟩; exact ⟨rfl, s2_below hb1 Hv.out⟩)
                        | (go_at_call 26; (with_reducible refine (rto_all f (kn' : Int) a0' a1' a2' a3' u' l0' l1' l2' _ _ HTQ.out).mono ?_); rintro e w1 ⟨rfl, hb1⟩; exact ⟨rfl, s2_below hb1 Hv.out⟩))
                    refine hK _ ?_
                    clear hK K))
            refine nil_class ?_
            intro wq hq
            have HS := Lib.hid hq
            obtain ⟨hz, ⟨_, _, _, _, _, _, _, _, _, _, _⟩, ⟨_, _, _, _, _, _, _, _, _, _, _⟩⟩ := hq
            have HS0 := HS
            clear HS
            go_wp2
            clear hz
            go_loopw [5] (fun i wr => ∃ j : Nat, j ≤ kn + 1 ∧ i = .int .i64 j ∧ S2 w A B 30 ⟨f, (kn : Int), a0, a1, a2, a3, u, l0, l1, l2⟩ ⟨f, (kn' : Int), a0', a1', a2', a3', u', l0', l1', l2'⟩ wr ∧ Hid (∀ (t : Nat) (x y : Int), t < j → (⟨f, (kn : Int), a0, a1, a2, a3, u, l0, l1, l2⟩ : Pa).al[t]? = some x → (⟨f, (kn' : Int), a0', a1', a2', a3', u', l0', l1', l2'⟩ : Pa).al[t]? = some y → x ≤ y)) (fun i _ => kn + 1 - (intOf i).toNat)
            case atStart => exact ⟨0, Nat.zero_le _, rfl, HS0.out, fun t x y ht => absurd ht (Nat.not_lt_zero _)⟩
            case round =>
              clear HS0
              obtain ⟨j, hj, rfl, hS, hno⟩ := hrel
              have HS := Lib.hid hS
              obtain ⟨hz, ⟨_, _, _, _, _, _, _, _, _, _, _⟩, ⟨_, _, _, _, _, _, _, _, _, _, _⟩⟩ := hS
              by_cases hlt : j ≤ kn
              · have hjd : decide ((j : Int) ≤ (kn : Int)) = true := by simp; omega
                obtain ⟨x, hx⟩ := getA ⟨f, (kn : Int), a0, a1, a2, a3, u, l0, l1, l2⟩ j (by omega)
                obtain ⟨y, hy⟩ := getA ⟨f, (kn' : Int), a0', a1', a2', a3', u', l0', l1', l2'⟩ j (by omega)
                have HX := Lib.hid hx
                have HY := Lib.hid hy
                clear hx hy
                have hj3 : j ≤ 3 := by omega
                have hj4 : (j : Int) < 4 := by omega
                by_cases hxy : y < x
                · have HR := Lib.hid (leR_fal_a (p := ⟨f, (kn : Int), a0, a1, a2, a3, u, l0, l1, l2⟩) (q := ⟨f, (kn' : Int), a0', a1', a2', a3', u', l0', l1', l2'⟩) j x y HALL.out.1 (by show (kn : Int) ≤ (kn' : Int); omega) (by show (j : Int) ≤ (kn : Int); omega) HX.out HY.out hxy)
                  clear hno HALL
                  go_upto_region 6 with (fail)
                  clear hz
                  refine region_class (S2 w A B 30 ⟨f, (kn : Int), a0, a1, a2, a3, u, l0, l1, l2⟩ ⟨f, (kn' : Int), a0', a1', a2', a3', u', l0', l1', l2'⟩) (by kernel_rfl) (by kernel_rfl) HS.out.1.drew.s ?_
                  clear HS
                  repeat
                    (refine step_class (fun K hK => ?_)
                     go_simp
                     first
                       | (refine hK _ ?_; clear hK K)
                       | (with_reducible apply Hq.of
                          · intro wv hv
                            have Hv := Lib.hid hv
                            have ca := rowA hv.1.a _ _ HX.out
                            have cb := rowA hv.1.b _ _ HY.out
                            obtain ⟨hz, ⟨_, _, _, _, _, _, _, _, _, _, _⟩, ⟨_, _, _, _, _, _, _, _, _, _, _⟩⟩ := hv
                            go_simp
                            (first
                              | (with_reducible exact rfl)
                              )
                          refine hK _ ?_
                          clear hK K))
                  refine nil_class ?_
                  intro wq hq
                  have HS := Lib.hid hq
                  obtain ⟨hz, ⟨_, _, _, _, _, _, _, _, _, _, _⟩, ⟨_, _, _, _, _, _, _, _, _, _, _⟩⟩ := hq
                  go_wp2
                  go_ret
                  exact ⟨by rw [HR.out]; rfl, hz.z⟩
                · have hxd : decide (y < x) = false := by simp; omega
                  have hno' : Hid (∀ (t : Nat) (x y : Int), t < j + 1 → (⟨f, (kn : Int), a0, a1, a2, a3, u, l0, l1, l2⟩ : Pa).al[t]? = some x → (⟨f, (kn' : Int), a0', a1', a2', a3', u', l0', l1', l2'⟩ : Pa).al[t]? = some y → x ≤ y) := by
                    intro t x' y' ht hx' hy'
                    by_cases e : t = j
                    · subst e; rw [HX.out] at hx'; rw [HY.out] at hy'; cases hx'; cases hy'; omega
                    · exact hno.out t x' y' (by omega) hx' hy'
                  clear hno
                  go_upto_region 6 with (fail)
                  clear hz
                  refine region_class (S2 w A B 30 ⟨f, (kn : Int), a0, a1, a2, a3, u, l0, l1, l2⟩ ⟨f, (kn' : Int), a0', a1', a2', a3', u', l0', l1', l2'⟩) (by kernel_rfl) (by kernel_rfl) HS.out.1.drew.s ?_
                  clear HS
                  repeat
                    (refine step_class (fun K hK => ?_)
                     go_simp
                     first
                       | (refine hK _ ?_; clear hK K)
                       | (with_reducible apply Hq.of
                          · intro wv hv
                            have Hv := Lib.hid hv
                            have ca := rowA hv.1.a _ _ HX.out
                            have cb := rowA hv.1.b _ _ HY.out
                            obtain ⟨hz, ⟨_, _, _, _, _, _, _, _, _, _, _⟩, ⟨_, _, _, _, _, _, _, _, _, _, _⟩⟩ := hv
                            go_simp
                            (first
                              | (with_reducible exact rfl)
                              )
                          refine hK _ ?_
                          clear hK K))
                  refine nil_class ?_
                  intro wq hq
                  have HS := Lib.hid hq
                  obtain ⟨hz, ⟨_, _, _, _, _, _, _, _, _, _, _⟩, ⟨_, _, _, _, _, _, _, _, _, _, _⟩⟩ := hq
                  go_wp2
                  go_roundw
                  case rel => exact ⟨j + 1, by omega, by go_num, HS.out, hno'⟩
                  case measure => simp [intOf]; omega
              · obtain rfl : j = kn + 1 := by omega
                have hjd : decide (((kn + 1 : Nat) : Int) ≤ (kn : Int)) = false := by simp; omega
                have HA1 : Hid (∀ (t : Nat) (x y : Int), (t : Int) ≤ (kn : Int) → (⟨f, (kn : Int), a0, a1, a2, a3, u, l0, l1, l2⟩ : Pa).al[t]? = some x → (⟨f, (kn' : Int), a0', a1', a2', a3', u', l0', l1', l2'⟩ : Pa).al[t]? = some y → x ≤ y) := fun t x y ht h1 h2 => hno.out t x y (by omega) h1 h2
                clear hno
                go_wp2
                have hS := HS.out
                clear HS hz
                go_loopw [6] (fun i wr => ∃ j : Nat, kn ≤ j ∧ j ≤ tn ∧ i = .int .i64 j ∧ S2 w A B 30 ⟨f, (kn : Int), a0, a1, a2, a3, u, l0, l1, l2⟩ ⟨f, (kn' : Int), a0', a1', a2', a3', u', l0', l1', l2'⟩ wr ∧ Hid (∀ t : Nat, kn ≤ t → t < j → leastR ⟨f, (kn : Int), a0, a1, a2, a3, u, l0, l1, l2⟩ t ≤ leastR ⟨f, (kn' : Int), a0', a1', a2', a3', u', l0', l1', l2'⟩ t)) (fun i _ => tn - (intOf i).toNat)
                case atStart => exact ⟨kn, Nat.le_refl _, hkt, rfl, hS, fun t h1 h2 => absurd h2 (by omega)⟩
                case round =>
                  clear hS
                  obtain ⟨j, hj0, hj, rfl, hS, hno⟩ := hrel
                  have HS := Lib.hid hS
                  obtain ⟨hz, ⟨_, _, _, _, _, _, _, _, _, _, _⟩, ⟨_, _, _, _, _, _, _, _, _, _, _⟩⟩ := hS
                  by_cases hlt : j < tn
                  · have hjt : decide ((j : Int) < (tn : Int)) = true := by simp; omega
                    obtain ⟨x, hx⟩ := getL ⟨f, (kn : Int), a0, a1, a2, a3, u, l0, l1, l2⟩ (j - kn) (by omega)
                    have hx2 : leastR ⟨f, (kn : Int), a0, a1, a2, a3, u, l0, l1, l2⟩ j = x := leastR_ge (by show ¬ (j : Int) < (kn : Int); omega) hx
                    have HX := Lib.hid (And.intro hx hx2)
                    clear hx hx2
                    have e1 : (j : Int) - (kn : Int) = ((j - kn : Nat) : Int) := by omega
                    have e2 : j - kn ≤ 2 := by omega
                    generalize j - kn = d at HX e1 e2
                    by_cases hjk : j < kn'
                    · have hjd : decide ((j : Int) < (kn' : Int)) = true := by simp; omega
                      obtain ⟨y, hy⟩ := getA ⟨f, (kn' : Int), a0', a1', a2', a3', u', l0', l1', l2'⟩ (j + 1) (by omega)
                      have hy2 : leastR ⟨f, (kn' : Int), a0', a1', a2', a3', u', l0', l1', l2'⟩ j = y := leastR_lt (by show (j : Int) < (kn' : Int); omega) hy
                      have HY := Lib.hid (And.intro hy hy2)
                      clear hy hy2
                      have e4 : j + 1 ≤ 3 := by omega
                      by_cases hxy : y < x
                      · have HR := Lib.hid (leR_fal_l (p := ⟨f, (kn : Int), a0, a1, a2, a3, u, l0, l1, l2⟩) (q := ⟨f, (kn' : Int), a0', a1', a2', a3', u', l0', l1', l2'⟩) j HALL.out.1 (by rw [HALL.out.2.2.1]; omega) (by rw [HX.out.2, HY.out.2]; exact hxy))
                        clear hno HALL HA1
                        go_wp2_with (go_at_call 26; (with_reducible refine (rto_all f (kn : Int) a0 a1 a2 a3 u l0 l1 l2 _ _ HTP.out).mono ?_); rintro e w1 ⟨rfl, hb1⟩; have S3 := s2_below hb1 HS.out; have HS3 := Lib.hid S3; have ca := rowL S3.1.a _ _ HX.out.1; have cb0 := rowA S3.1.b _ _ HY.out.1; have cb : w1.cell? ⟨B, 2 + (j + 1), none⟩ = some (.int .u32 y) := cb0; obtain ⟨hz, ⟨_, _, _, _, _, _, _, _, _, _, _⟩, ⟨_, _, _, _, _, _, _, _, _, _, _⟩⟩ := S3)
                        go_ret
                        exact ⟨by rw [HR.out]; rfl, hz.z⟩
                      · have hxd : decide (y < x) = false := by simp; omega
                        have hno' : Hid (∀ t : Nat, kn ≤ t → t < j + 1 → leastR ⟨f, (kn : Int), a0, a1, a2, a3, u, l0, l1, l2⟩ t ≤ leastR ⟨f, (kn' : Int), a0', a1', a2', a3', u', l0', l1', l2'⟩ t) := by
                          intro t ht0 ht
                          by_cases e : t = j
                          · subst e; rw [HX.out.2, HY.out.2]; omega
                          · exact hno.out t ht0 (by omega)
                        clear hno
                        go_wp2_with (go_at_call 26; (with_reducible refine (rto_all f (kn : Int) a0 a1 a2 a3 u l0 l1 l2 _ _ HTP.out).mono ?_); rintro e w1 ⟨rfl, hb1⟩; have S3 := s2_below hb1 HS.out; have HS3 := Lib.hid S3; have ca := rowL S3.1.a _ _ HX.out.1; have cb0 := rowA S3.1.b _ _ HY.out.1; have cb : w1.cell? ⟨B, 2 + (j + 1), none⟩ = some (.int .u32 y) := cb0; obtain ⟨hz, ⟨_, _, _, _, _, _, _, _, _, _, _⟩, ⟨_, _, _, _, _, _, _, _, _, _, _⟩⟩ := S3)
                        go_roundw
                        case rel => exact ⟨j + 1, by omega, by omega, by go_num, HS3.out, hno'⟩
                        case measure => simp [intOf]; omega
                    · have hjd : decide ((j : Int) < (kn' : Int)) = false := by simp; omega
                      obtain ⟨y, hy⟩ := getL ⟨f, (kn' : Int), a0', a1', a2', a3', u', l0', l1', l2'⟩ (j - kn') (by omega)
                      have hy2 : leastR ⟨f, (kn' : Int), a0', a1', a2', a3', u', l0', l1', l2'⟩ j = y := leastR_ge (by show ¬ (j : Int) < (kn' : Int); omega) hy
                      have HY := Lib.hid (And.intro hy hy2)
                      clear hy hy2
                      have e3 : (j : Int) - (kn' : Int) = ((j - kn' : Nat) : Int) := by omega
                      have e4 : j - kn' ≤ 2 := by omega
                      generalize j - kn' = d' at HY e3 e4
                      by_cases hxy : y < x
                      · have HR := Lib.hid (leR_fal_l (p := ⟨f, (kn : Int), a0, a1, a2, a3, u, l0, l1, l2⟩) (q := ⟨f, (kn' : Int), a0', a1', a2', a3', u', l0', l1', l2'⟩) j HALL.out.1 (by rw [HALL.out.2.2.1]; omega) (by rw [HX.out.2, HY.out.2]; exact hxy))
                        clear hno HALL HA1
                        go_wp2_with (go_at_call 26; (with_reducible refine (rto_all f (kn : Int) a0 a1 a2 a3 u l0 l1 l2 _ _ HTP.out).mono ?_); rintro e w1 ⟨rfl, hb1⟩; have S3 := s2_below hb1 HS.out; have HS3 := Lib.hid S3; have ca := rowL S3.1.a _ _ HX.out.1; have cb := rowL S3.1.b _ _ HY.out.1; obtain ⟨hz, ⟨_, _, _, _, _, _, _, _, _, _, _⟩, ⟨_, _, _, _, _, _, _, _, _, _, _⟩⟩ := S3)
                        go_ret
                        exact ⟨by rw [HR.out]; rfl, hz.z⟩
                      · have hxd : decide (y < x) = false := by simp; omega
                        have hno' : Hid (∀ t : Nat, kn ≤ t → t < j + 1 → leastR ⟨f, (kn : Int), a0, a1, a2, a3, u, l0, l1, l2⟩ t ≤ leastR ⟨f, (kn' : Int), a0', a1', a2', a3', u', l0', l1', l2'⟩ t) := by
                          intro t ht0 ht
                          by_cases e : t = j
                          · subst e; rw [HX.out.2, HY.out.2]; omega
                          · exact hno.out t ht0 (by omega)
                        clear hno
                        go_wp2_with (go_at_call 26; (with_reducible refine (rto_all f (kn : Int) a0 a1 a2 a3 u l0 l1 l2 _ _ HTP.out).mono ?_); rintro e w1 ⟨rfl, hb1⟩; have S3 := s2_below hb1 HS.out; have HS3 := Lib.hid S3; have ca := rowL S3.1.a _ _ HX.out.1; have cb := rowL S3.1.b _ _ HY.out.1; obtain ⟨hz, ⟨_, _, _, _, _, _, _, _, _, _, _⟩, ⟨_, _, _, _, _, _, _, _, _, _, _⟩⟩ := S3)
                        go_roundw
                        case rel => exact ⟨j + 1, by omega, by omega, by go_num, HS3.out, hno'⟩
                        case measure => simp [intOf]; omega
                  · obtain rfl : j = tn := by omega
                    have hjt : decide ((j : Int) < (j : Int)) = false := by simp
                    have HR := Lib.hid (leR_true (p := ⟨f, (kn : Int), a0, a1, a2, a3, u, l0, l1, l2⟩) (q := ⟨f, (kn' : Int), a0', a1', a2', a3', u', l0', l1', l2'⟩) HALL.out.1 HALL.out.2.1 rfl (HALL.out.2.2.1.trans HALL.out.2.2.2.symm) (by show (kn : Int) ≤ (kn' : Int); omega) HA1.out (fun t h1 h2 => hno.out t (by have : (kn : Int) ≤ (t : Int) := h1; omega) (by rw [HALL.out.2.2.1] at h2; omega)))
                    clear hno HALL HA1
                    go_wp2_with (go_at_call 26; (with_reducible refine (rto_all f (kn : Int) a0 a1 a2 a3 u l0 l1 l2 _ _ HTP.out).mono ?_); rintro e w1 ⟨rfl, hb1⟩; have S3 := s2_below hb1 HS.out; have HS3 := Lib.hid S3; obtain ⟨hz, ⟨_, _, _, _, _, _, _, _, _, _, _⟩, ⟨_, _, _, _, _, _, _, _, _, _, _⟩⟩ := S3)
                    go_ret
                    exact ⟨by rw [HR.out]; rfl, hz.z⟩
        · have HR := Lib.hid (leR_no (p := ⟨f, k, a0, a1, a2, a3, u, l0, l1, l2⟩) (q := ⟨f, k', a0', a1', a2', a3', u', l0', l1', l2'⟩) (fun h => ht (by rw [← htp, ← htq]; exact h.2.2.2.1)))
          have ht1 : (tp != tq) = true := by simp [ht]
          clear hcp hcq htp htq ht
          go_enter Try.func30, Try.ntmps30
          go_upto_region 1 with (fail)
          have hw : W2 w w.heap.size (w.heap.size + 1) 30 ⟨f, k, a0, a1, a2, a3, u, l0, l1, l2⟩ ⟨f, k', a0', a1', a2', a3', u', l0', l1', l2'⟩ ((w.alloc (.cells #[.int .i64 f, .int .i64 k, .int .u32 a0, .int .u32 a1, .int .u32 a2, .int .u32 a3, .int .i64 u, .int .u32 l0, .int .u32 l1, .int .u32 l2] 30)).alloc (.cells #[.int .i64 f, .int .i64 k', .int .u32 a0', .int .u32 a1', .int .u32 a2', .int .u32 a3', .int .i64 u', .int .u32 l0', .int .u32 l1', .int .u32 l2'] 30)) := W2.start w 30 ⟨f, k, a0, a1, a2, a3, u, l0, l1, l2⟩ ⟨f, k', a0', a1', a2', a3', u', l0', l1', l2'⟩
          generalize (w.alloc (.cells #[.int .i64 f, .int .i64 k, .int .u32 a0, .int .u32 a1, .int .u32 a2, .int .u32 a3, .int .i64 u, .int .u32 l0, .int .u32 l1, .int .u32 l2] 30)).alloc (.cells #[.int .i64 f, .int .i64 k', .int .u32 a0', .int .u32 a1', .int .u32 a2', .int .u32 a3', .int .i64 u', .int .u32 l0', .int .u32 l1', .int .u32 l2'] 30) = wc at hw ⊢
          generalize hA : w.heap.size = A at hw ⊢
          generalize hB : A + 1 = B at hw ⊢
          clear hB hA
          have hC := hw.drew.s
          clear hw
          refine region_class (S2 w A B 30 ⟨f, k, a0, a1, a2, a3, u, l0, l1, l2⟩ ⟨f, k', a0', a1', a2', a3', u', l0', l1', l2'⟩) (by kernel_rfl) (by kernel_rfl) hC ?_
          clear hC
          repeat
            (refine step_class (fun K hK => ?_)
             go_simp
             first
               | (refine hK _ ?_; clear hK K)
               | (with_reducible apply Hq.of
                  · intro wv hv
                    have Hv := Lib.hid hv
                    obtain ⟨hz, ⟨_, _, _, _, _, _, _, _, _, _, _⟩, ⟨_, _, _, _, _, _, _, _, _, _, _⟩⟩ := hv
                    go_simp
                    (first
                      | (with_reducible exact rfl)
                      | (go_at_call 24; (with_reducible refine (rcheck_all f k a0 a1 a2 a3 u l0 l1 l2 _ _ HCP.out).mono ?_); rintro e w1 ⟨rfl, hb1⟩; exact ⟨rfl, s2_below hb1 Hv.out⟩)
                      | (go_at_call 24; (with_reducible refine (rcheck_all f k' a0' a1' a2' a3' u' l0' l1' l2' _ _ HCQ.out).mono ?_); rintro e w1 ⟨rfl, hb1⟩; exact ⟨rfl, s2_below hb1 Hv.out⟩)
                      | (go_at_call 26; (with_reducible refine (rto_all f k a0 a1 a2 a3 u l0 l1 l2 _ _ HTP.out).mono ?_); rintro e w1 ⟨rfl, hb1⟩; exact ⟨rfl, s2_below hb1 Hv.out⟩)
                      | (go_at_call 26; (with_reducible refine (rto_all f k' a0' a1' a2' a3' u' l0' l1' l2' _ _ HTQ.out).mono ?_); rintro e w1 ⟨rfl, hb1⟩; exact ⟨rfl, s2_below hb1 Hv.out⟩))
                  refine hK _ ?_
                  clear hK K))
          refine nil_class ?_
          intro wq hq
          have HS := Lib.hid hq
          obtain ⟨hz, ⟨_, _, _, _, _, _, _, _, _, _, _⟩, ⟨_, _, _, _, _, _, _, _, _, _, _⟩⟩ := hq
          go_wp2
          go_ret
          exact ⟨by rw [HR.out]; rfl, hz.z⟩
      · have HR := Lib.hid (leR_no (p := ⟨f, k, a0, a1, a2, a3, u, l0, l1, l2⟩) (q := ⟨f', k', a0', a1', a2', a3', u', l0', l1', l2'⟩) (fun h => hf h.2.2.1))
        have hf1 : (f != f') = true := by simp [hf]
        clear hcp hcq htp htq hf
        go_enter Try.func30, Try.ntmps30
        go_upto_region 1 with (fail)
        have hw : W2 w w.heap.size (w.heap.size + 1) 30 ⟨f, k, a0, a1, a2, a3, u, l0, l1, l2⟩ ⟨f', k', a0', a1', a2', a3', u', l0', l1', l2'⟩ ((w.alloc (.cells #[.int .i64 f, .int .i64 k, .int .u32 a0, .int .u32 a1, .int .u32 a2, .int .u32 a3, .int .i64 u, .int .u32 l0, .int .u32 l1, .int .u32 l2] 30)).alloc (.cells #[.int .i64 f', .int .i64 k', .int .u32 a0', .int .u32 a1', .int .u32 a2', .int .u32 a3', .int .i64 u', .int .u32 l0', .int .u32 l1', .int .u32 l2'] 30)) := W2.start w 30 ⟨f, k, a0, a1, a2, a3, u, l0, l1, l2⟩ ⟨f', k', a0', a1', a2', a3', u', l0', l1', l2'⟩
        generalize (w.alloc (.cells #[.int .i64 f, .int .i64 k, .int .u32 a0, .int .u32 a1, .int .u32 a2, .int .u32 a3, .int .i64 u, .int .u32 l0, .int .u32 l1, .int .u32 l2] 30)).alloc (.cells #[.int .i64 f', .int .i64 k', .int .u32 a0', .int .u32 a1', .int .u32 a2', .int .u32 a3', .int .i64 u', .int .u32 l0', .int .u32 l1', .int .u32 l2'] 30) = wc at hw ⊢
        generalize hA : w.heap.size = A at hw ⊢
        generalize hB : A + 1 = B at hw ⊢
        clear hB hA
        have hC := hw.drew.s
        clear hw
        refine region_class (S2 w A B 30 ⟨f, k, a0, a1, a2, a3, u, l0, l1, l2⟩ ⟨f', k', a0', a1', a2', a3', u', l0', l1', l2'⟩) (by kernel_rfl) (by kernel_rfl) hC ?_
        clear hC
        repeat
          (refine step_class (fun K hK => ?_)
           go_simp
           first
             | (refine hK _ ?_; clear hK K)
             | (with_reducible apply Hq.of
                · intro wv hv
                  have Hv := Lib.hid hv
                  obtain ⟨hz, ⟨_, _, _, _, _, _, _, _, _, _, _⟩, ⟨_, _, _, _, _, _, _, _, _, _, _⟩⟩ := hv
                  go_simp
                  (first
                    | (with_reducible exact rfl)
                    | (go_at_call 24; (with_reducible refine (rcheck_all f k a0 a1 a2 a3 u l0 l1 l2 _ _ HCP.out).mono ?_); rintro e w1 ⟨rfl, hb1⟩; exact ⟨rfl, s2_below hb1 Hv.out⟩)
                    | (go_at_call 24; (with_reducible refine (rcheck_all f' k' a0' a1' a2' a3' u' l0' l1' l2' _ _ HCQ.out).mono ?_); rintro e w1 ⟨rfl, hb1⟩; exact ⟨rfl, s2_below hb1 Hv.out⟩)
                    | (go_at_call 26; (with_reducible refine (rto_all f k a0 a1 a2 a3 u l0 l1 l2 _ _ HTP.out).mono ?_); rintro e w1 ⟨rfl, hb1⟩; exact ⟨rfl, s2_below hb1 Hv.out⟩)
                    | (go_at_call 26; (with_reducible refine (rto_all f' k' a0' a1' a2' a3' u' l0' l1' l2' _ _ HTQ.out).mono ?_); rintro e w1 ⟨rfl, hb1⟩; exact ⟨rfl, s2_below hb1 Hv.out⟩))
                refine hK _ ?_
                clear hK K))
        refine nil_class ?_
        intro wq hq
        have HS := Lib.hid hq
        obtain ⟨hz, ⟨_, _, _, _, _, _, _, _, _, _, _⟩, ⟨_, _, _, _, _, _, _, _, _, _, _⟩⟩ := hq
        go_wp2
        go_ret
        exact ⟨by rw [HR.out]; rfl, hz.z⟩
    · have HR := Lib.hid (leR_no (p := ⟨f, k, a0, a1, a2, a3, u, l0, l1, l2⟩) (q := ⟨f', k', a0', a1', a2', a3', u', l0', l1', l2'⟩) (fun h => hq0 (hcq ▸ h.2.1)))
      have h1 : (cq != 0) = true := by simp [hq0]
      obtain ⟨tp, htp⟩ : ∃ t, toR ⟨f, k, a0, a1, a2, a3, u, l0, l1, l2⟩ = t := ⟨_, rfl⟩
      have HTP := Lib.hid htp
      have HTQ := HTP
      clear hcp hcq hq0
      go_enter Try.func30, Try.ntmps30
      go_upto_region 1 with (fail)
      have hw : W2 w w.heap.size (w.heap.size + 1) 30 ⟨f, k, a0, a1, a2, a3, u, l0, l1, l2⟩ ⟨f', k', a0', a1', a2', a3', u', l0', l1', l2'⟩ ((w.alloc (.cells #[.int .i64 f, .int .i64 k, .int .u32 a0, .int .u32 a1, .int .u32 a2, .int .u32 a3, .int .i64 u, .int .u32 l0, .int .u32 l1, .int .u32 l2] 30)).alloc (.cells #[.int .i64 f', .int .i64 k', .int .u32 a0', .int .u32 a1', .int .u32 a2', .int .u32 a3', .int .i64 u', .int .u32 l0', .int .u32 l1', .int .u32 l2'] 30)) := W2.start w 30 ⟨f, k, a0, a1, a2, a3, u, l0, l1, l2⟩ ⟨f', k', a0', a1', a2', a3', u', l0', l1', l2'⟩
      generalize (w.alloc (.cells #[.int .i64 f, .int .i64 k, .int .u32 a0, .int .u32 a1, .int .u32 a2, .int .u32 a3, .int .i64 u, .int .u32 l0, .int .u32 l1, .int .u32 l2] 30)).alloc (.cells #[.int .i64 f', .int .i64 k', .int .u32 a0', .int .u32 a1', .int .u32 a2', .int .u32 a3', .int .i64 u', .int .u32 l0', .int .u32 l1', .int .u32 l2'] 30) = wc at hw ⊢
      generalize hA : w.heap.size = A at hw ⊢
      generalize hB : A + 1 = B at hw ⊢
      clear hB hA
      have hC := hw.drew.s
      clear hw
      refine region_class (S2 w A B 30 ⟨f, k, a0, a1, a2, a3, u, l0, l1, l2⟩ ⟨f', k', a0', a1', a2', a3', u', l0', l1', l2'⟩) (by kernel_rfl) (by kernel_rfl) hC ?_
      clear hC
      repeat
        (refine step_class (fun K hK => ?_)
         go_simp
         first
           | (refine hK _ ?_; clear hK K)
           | (with_reducible apply Hq.of
              · intro wv hv
                have Hv := Lib.hid hv
                obtain ⟨hz, ⟨_, _, _, _, _, _, _, _, _, _, _⟩, ⟨_, _, _, _, _, _, _, _, _, _, _⟩⟩ := hv
                go_simp
                (first
                  | (with_reducible exact rfl)
                  | (go_at_call 24; (with_reducible refine (rcheck_all f k a0 a1 a2 a3 u l0 l1 l2 _ _ HCP.out).mono ?_); rintro e w1 ⟨rfl, hb1⟩; exact ⟨rfl, s2_below hb1 Hv.out⟩)
                  | (go_at_call 24; (with_reducible refine (rcheck_all f' k' a0' a1' a2' a3' u' l0' l1' l2' _ _ HCQ.out).mono ?_); rintro e w1 ⟨rfl, hb1⟩; exact ⟨rfl, s2_below hb1 Hv.out⟩)
                  | (go_at_call 26; (with_reducible refine (rto_all f k a0 a1 a2 a3 u l0 l1 l2 _ _ HTP.out).mono ?_); rintro e w1 ⟨rfl, hb1⟩; exact ⟨rfl, s2_below hb1 Hv.out⟩)
                  | (fail; (with_reducible refine (rto_all f k a0 a1 a2 a3 u l0 l1 l2 _ _ HTQ.out).mono ?_); rintro e w1 ⟨rfl, hb1⟩; exact ⟨rfl, s2_below hb1 Hv.out⟩))
              refine hK _ ?_
              clear hK K))
      refine nil_class ?_
      intro wq hq
      have HS := Lib.hid hq
      obtain ⟨hz, ⟨_, _, _, _, _, _, _, _, _, _, _⟩, ⟨_, _, _, _, _, _, _, _, _, _, _⟩⟩ := hq
      go_wp2
      go_ret
      exact ⟨by rw [HR.out]; rfl, hz.z⟩
  · have HR := Lib.hid (leR_no (p := ⟨f, k, a0, a1, a2, a3, u, l0, l1, l2⟩) (q := ⟨f', k', a0', a1', a2', a3', u', l0', l1', l2'⟩) (fun h => hp0 (hcp ▸ h.1)))
    have h1 : (cp != 0) = true := by simp [hp0]
    obtain ⟨tp, htp⟩ : ∃ t, toR ⟨f, k, a0, a1, a2, a3, u, l0, l1, l2⟩ = t := ⟨_, rfl⟩
    have HTP := Lib.hid htp
    have HTQ := HTP
    clear hcp hcq hp0
    go_enter Try.func30, Try.ntmps30
    go_upto_region 1 with (fail)
    have hw : W2 w w.heap.size (w.heap.size + 1) 30 ⟨f, k, a0, a1, a2, a3, u, l0, l1, l2⟩ ⟨f', k', a0', a1', a2', a3', u', l0', l1', l2'⟩ ((w.alloc (.cells #[.int .i64 f, .int .i64 k, .int .u32 a0, .int .u32 a1, .int .u32 a2, .int .u32 a3, .int .i64 u, .int .u32 l0, .int .u32 l1, .int .u32 l2] 30)).alloc (.cells #[.int .i64 f', .int .i64 k', .int .u32 a0', .int .u32 a1', .int .u32 a2', .int .u32 a3', .int .i64 u', .int .u32 l0', .int .u32 l1', .int .u32 l2'] 30)) := W2.start w 30 ⟨f, k, a0, a1, a2, a3, u, l0, l1, l2⟩ ⟨f', k', a0', a1', a2', a3', u', l0', l1', l2'⟩
    generalize (w.alloc (.cells #[.int .i64 f, .int .i64 k, .int .u32 a0, .int .u32 a1, .int .u32 a2, .int .u32 a3, .int .i64 u, .int .u32 l0, .int .u32 l1, .int .u32 l2] 30)).alloc (.cells #[.int .i64 f', .int .i64 k', .int .u32 a0', .int .u32 a1', .int .u32 a2', .int .u32 a3', .int .i64 u', .int .u32 l0', .int .u32 l1', .int .u32 l2'] 30) = wc at hw ⊢
    generalize hA : w.heap.size = A at hw ⊢
    generalize hB : A + 1 = B at hw ⊢
    clear hB hA
    have hC := hw.drew.s
    clear hw
    refine region_class (S2 w A B 30 ⟨f, k, a0, a1, a2, a3, u, l0, l1, l2⟩ ⟨f', k', a0', a1', a2', a3', u', l0', l1', l2'⟩) (by kernel_rfl) (by kernel_rfl) hC ?_
    clear hC
    repeat
      (refine step_class (fun K hK => ?_)
       go_simp
       first
         | (refine hK _ ?_; clear hK K)
         | (with_reducible apply Hq.of
            · intro wv hv
              have Hv := Lib.hid hv
              obtain ⟨hz, ⟨_, _, _, _, _, _, _, _, _, _, _⟩, ⟨_, _, _, _, _, _, _, _, _, _, _⟩⟩ := hv
              go_simp
              (first
                | (with_reducible exact rfl)
                | (go_at_call 24; (with_reducible refine (rcheck_all f k a0 a1 a2 a3 u l0 l1 l2 _ _ HCP.out).mono ?_); rintro e w1 ⟨rfl, hb1⟩; exact ⟨rfl, s2_below hb1 Hv.out⟩)
                | (go_at_call 24; (with_reducible refine (rcheck_all f' k' a0' a1' a2' a3' u' l0' l1' l2' _ _ HCQ.out).mono ?_); rintro e w1 ⟨rfl, hb1⟩; exact ⟨rfl, s2_below hb1 Hv.out⟩)
                | (go_at_call 26; (with_reducible refine (rto_all f k a0 a1 a2 a3 u l0 l1 l2 _ _ HTP.out).mono ?_); rintro e w1 ⟨rfl, hb1⟩; exact ⟨rfl, s2_below hb1 Hv.out⟩)
                | (fail; (with_reducible refine (rto_all f k a0 a1 a2 a3 u l0 l1 l2 _ _ HTQ.out).mono ?_); rintro e w1 ⟨rfl, hb1⟩; exact ⟨rfl, s2_below hb1 Hv.out⟩))
            refine hK _ ?_
            clear hK K))
    refine nil_class ?_
    intro wq hq
    have HS := Lib.hid hq
    obtain ⟨hz, ⟨_, _, _, _, _, _, _, _, _, _, _⟩, ⟨_, _, _, _, _, _, _, _, _, _, _⟩⟩ := hq
    go_wp2
    go_ret
    exact ⟨by rw [HR.out]; rfl, hz.z⟩
end Go.Proofs.Ytfmnbkcjibhloaa
