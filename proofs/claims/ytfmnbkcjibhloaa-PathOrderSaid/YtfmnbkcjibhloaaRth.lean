/- One way, and then another one: the reference's Then. Condition: counts of uint32's range. -/
import Derived.Test.YtfmnbkcjibhloaaApp
namespace Go.Proofs.Ytfmnbkcjibhloaa
open Go.RowKit
set_option linter.unusedVariables false
set_option linter.unusedSimpArgs false
theorem chk_thP {p q : Pa} (hp : Good p) (hq : Good q) (hf : p.k + p.u = q.f) : chk (thP p q) = if paOver (thP p q) = true then 1 else 0 := by
  rcases h : paOver (thP p q) with _ | _
  · exact good_iff.2 (thP_good hp hq hf h)
  · rw [if_pos rfl]
    have a1 := hp.f0; have a2 := hp.f3; have a3 := hp.k0; have a4 := hp.kf; have a5 := hp.u0; have a6 := hp.u3
    have b3 := hq.k0; have b4 := hq.kf; have b5 := hq.u0; have b6 := hq.u3
    have K : 0 ≤ thK p q ∧ thK p q ≤ p.f ∧ thK p q + (thM p q + q.u) ≤ 3 ∧ 0 ≤ thM p q := by unfold thK thM; split <;> omega
    obtain ⟨k1, k2, k3, k4⟩ := K
    have hd : dpt (thP p q) = false := by
      have e1 : (thP p q).f = p.f := rfl
      have e2 : (thP p q).k = thK p q := rfl
      have e3 : (thP p q).u = thM p q + q.u := rfl
      unfold dpt
      rw [e1, e2, e3]
      simp; omega
    have hg : ((thP p q).al.any gr || (thP p q).ll.any gr) = true := by
      unfold paOver at h
      rw [decide_eq_true_iff] at h
      generalize thP p q = z at h
      simp [Pa.al, Pa.ll, gr]; omega
    unfold chk
    rw [if_neg (by rw [hd]; decide), if_pos hg]
/-- The four counts and the three rounds, by place. -/
theorem A4 {y0 y1 y2 y3 : Int} (f : Nat → Int) (h : ∀ t : Nat, t ≤ 3 → (⟨0, 0, y0, y1, y2, y3, 0, 0, 0, 0⟩ : Pa).A t = f t) : y0 = f 0 ∧ y1 = f 1 ∧ y2 = f 2 ∧ y3 = f 3 := by
  have h0 := h 0 (by omega)
  have h1 := h 1 (by omega)
  have h2 := h 2 (by omega)
  have h3 := h 3 (by omega)
  simp [Pa.A] at h0 h1 h2 h3
  exact ⟨h0, h1, h2, h3⟩
theorem A4mk {y0 y1 y2 y3 : Int} (f : Nat → Int) (h0 : y0 = f 0) (h1 : y1 = f 1) (h2 : y2 = f 2) (h3 : y3 = f 3) : ∀ t : Nat, t ≤ 3 → (⟨0, 0, y0, y1, y2, y3, 0, 0, 0, 0⟩ : Pa).A t = f t := by
  intro t ht
  have : t = 0 ∨ t = 1 ∨ t = 2 ∨ t = 3 := by omega
  rcases this with rfl | rfl | rfl | rfl
  · simpa [Pa.A] using h0
  · simpa [Pa.A] using h1
  · simpa [Pa.A] using h2
  · simpa [Pa.A] using h3
abbrev S3p (w0 : World) (A B R : Nat) (f pk a0 a1 a2 a3 pu l0 l1 l2 g qk c0 c1 c2 c3 qu n0 n1 n2 : Int) (w : World) : Prop := Q3 w0 A B R #[.int .i64 f, .int .i64 pk, .int .u32 a0, .int .u32 a1, .int .u32 a2, .int .u32 a3, .int .i64 pu, .int .u32 l0, .int .u32 l1, .int .u32 l2] #[.int .i64 g, .int .i64 qk, .int .u32 c0, .int .u32 c1, .int .u32 c2, .int .u32 c3, .int .i64 qu, .int .u32 n0, .int .u32 n1, .int .u32 n2] #[.int .i64 0, .int .i64 0, .int .u32 0, .int .u32 0, .int .u32 0, .int .u32 0, .int .i64 0, .int .u32 0, .int .u32 0, .int .u32 0] 30 30 30 w ∧ AtPa A f pk a0 a1 a2 a3 pu l0 l1 l2 w ∧ AtPa B g qk c0 c1 c2 c3 qu n0 n1 n2 w ∧ AtPa R 0 0 0 0 0 0 0 0 0 0 w
theorem Q3.sp {w0 w : World} {A B R : Nat} {f pk a0 a1 a2 a3 pu l0 l1 l2 g qk c0 c1 c2 c3 qu n0 n1 n2 : Int} (h : Q3 w0 A B R #[.int .i64 f, .int .i64 pk, .int .u32 a0, .int .u32 a1, .int .u32 a2, .int .u32 a3, .int .i64 pu, .int .u32 l0, .int .u32 l1, .int .u32 l2] #[.int .i64 g, .int .i64 qk, .int .u32 c0, .int .u32 c1, .int .u32 c2, .int .u32 c3, .int .i64 qu, .int .u32 n0, .int .u32 n1, .int .u32 n2] #[.int .i64 0, .int .i64 0, .int .u32 0, .int .u32 0, .int .u32 0, .int .u32 0, .int .i64 0, .int .u32 0, .int .u32 0, .int .u32 0] 30 30 30 w) : S3p w0 A B R f pk a0 a1 a2 a3 pu l0 l1 l2 g qk c0 c1 c2 c3 qu n0 n1 n2 w := ⟨h, h.a.atPa, h.b.atPa, h.r.atPa⟩
theorem s3p_below {w0 w w' : World} {A B R : Nat} {f pk a0 a1 a2 a3 pu l0 l1 l2 g qk c0 c1 c2 c3 qu n0 n1 n2 : Int} (hb : Below w.heap.size w w') (h : S3p w0 A B R f pk a0 a1 a2 a3 pu l0 l1 l2 g qk c0 c1 c2 c3 qu n0 n1 n2 w) : S3p w0 A B R f pk a0 a1 a2 a3 pu l0 l1 l2 g qk c0 c1 c2 c3 qu n0 n1 n2 w' := (h.1.below hb).sp
set_option maxHeartbeats 4000000 in
theorem rthen_a (f pk a0 a1 a2 a3 pu l0 l1 l2 g qk c0 c1 c2 c3 qu n0 n1 n2 : Int) (w : World) (c : Int) (hp : chk ⟨f, pk, a0, a1, a2, a3, pu, l0, l1, l2⟩ = c) (h0 : c ≠ 0) : Calls Try.prog 36 #[.agg #[.int .i64 f, .int .i64 pk, .int .u32 a0, .int .u32 a1, .int .u32 a2, .int .u32 a3, .int .i64 pu, .int .u32 l0, .int .u32 l1, .int .u32 l2], .agg #[.int .i64 g, .int .i64 qk, .int .u32 c0, .int .u32 c1, .int .u32 c2, .int .u32 c3, .int .i64 qu, .int .u32 n0, .int .u32 n1, .int .u32 n2]] w fun e' w' => e' = .returned (.tuple #[.agg #[.int .i64 0, .int .i64 0, .int .u32 0, .int .u32 0, .int .u32 0, .int .u32 0, .int .i64 0, .int .u32 0, .int .u32 0, .int .u32 0], .int .i64 c]) ∧ Below w.heap.size w w' := by
  have HCP := Lib.hid hp
  have g1 : (c == 0) = false := by simp [h0]
  have g2 : (c != 0) = true := by simp [h0]
  clear hp h0
  go_enter Try.func36, Try.ntmps36
  go_upto_region 1 with (fail)
  have hq := Q3.start w #[.int .i64 f, .int .i64 pk, .int .u32 a0, .int .u32 a1, .int .u32 a2, .int .u32 a3, .int .i64 pu, .int .u32 l0, .int .u32 l1, .int .u32 l2] #[.int .i64 g, .int .i64 qk, .int .u32 c0, .int .u32 c1, .int .u32 c2, .int .u32 c3, .int .i64 qu, .int .u32 n0, .int .u32 n1, .int .u32 n2] #[.int .i64 0, .int .i64 0, .int .u32 0, .int .u32 0, .int .u32 0, .int .u32 0, .int .i64 0, .int .u32 0, .int .u32 0, .int .u32 0] 30 30 30
  generalize ((w.alloc (.cells #[.int .i64 f, .int .i64 pk, .int .u32 a0, .int .u32 a1, .int .u32 a2, .int .u32 a3, .int .i64 pu, .int .u32 l0, .int .u32 l1, .int .u32 l2] 30)).alloc (.cells #[.int .i64 g, .int .i64 qk, .int .u32 c0, .int .u32 c1, .int .u32 c2, .int .u32 c3, .int .i64 qu, .int .u32 n0, .int .u32 n1, .int .u32 n2] 30)).alloc (.cells #[.int .i64 0, .int .i64 0, .int .u32 0, .int .u32 0, .int .u32 0, .int .u32 0, .int .i64 0, .int .u32 0, .int .u32 0, .int .u32 0] 30) = wc at hq ⊢
  generalize hA : w.heap.size = A at hq ⊢
  generalize hB : A + 1 = B at hq ⊢
  generalize hR : B + 1 = R at hq ⊢
  clear hA hB hR
  obtain ⟨a_0, a_1, a_2, a_3, a_4, a_5, a_6, a_7, a_8, a_9, a_f⟩ := hq.a.ten
  obtain ⟨b_0, b_1, b_2, b_3, b_4, b_5, b_6, b_7, b_8, b_9, b_f⟩ := hq.b.ten
  obtain ⟨r_0, r_1, r_2, r_3, r_4, r_5, r_6, r_7, r_8, r_9, r_f⟩ := hq.r.ten
  go_upto_region 4 with (go_at_call 24; (with_reducible refine (rcheck_all f pk a0 a1 a2 a3 pu l0 l1 l2 _ _ HCP.out).mono ?_); rintro e' w1 ⟨rfl, hb1⟩; replace hq := hq.below hb1; clear hb1; clear a_0 a_1 a_2 a_3 a_4 a_5 a_6 a_7 a_8 a_9 a_f b_0 b_1 b_2 b_3 b_4 b_5 b_6 b_7 b_8 b_9 b_f r_0 r_1 r_2 r_3 r_4 r_5 r_6 r_7 r_8 r_9 r_f; obtain ⟨a_0, a_1, a_2, a_3, a_4, a_5, a_6, a_7, a_8, a_9, a_f⟩ := hq.a.ten; obtain ⟨b_0, b_1, b_2, b_3, b_4, b_5, b_6, b_7, b_8, b_9, b_f⟩ := hq.b.ten; obtain ⟨r_0, r_1, r_2, r_3, r_4, r_5, r_6, r_7, r_8, r_9, r_f⟩ := hq.r.ten)
  clear a_0 a_1 a_2 a_3 a_4 a_5 a_6 a_7 a_8 a_9 a_f b_0 b_1 b_2 b_3 b_4 b_5 b_6 b_7 b_8 b_9 b_f r_0 r_1 r_2 r_3 r_4 r_5 r_6 r_7 r_8 r_9 r_f
  have hC := hq.drew.sp
  clear hq
  refine region_class (S3p w A B R f pk a0 a1 a2 a3 pu l0 l1 l2 g qk c0 c1 c2 c3 qu n0 n1 n2) (by kernel_rfl) (by kernel_rfl) hC ?_
  clear hC
  repeat
    (refine step_class (fun K hK => ?_)
     go_simp
     first
       | (refine hK _ ?_; clear hK K)
       | (with_reducible apply Hq.of
          · intro wv hv
            have Hv := Lib.hid hv
            obtain ⟨hz, ⟨_, _, _, _, _, _, _, _, _, _, _⟩, ⟨_, _, _, _, _, _, _, _, _, _, _⟩, ⟨_, _, _, _, _, _, _, _, _, _, _⟩⟩ := hv
            go_simp
            (first
              | (with_reducible exact rfl)
              )
          refine hK _ ?_
          clear hK K))
  refine nil_class ?_
  intro wq hq4
  have hq := hq4.1
  clear hq4
  obtain ⟨a_0, a_1, a_2, a_3, a_4, a_5, a_6, a_7, a_8, a_9, a_f⟩ := hq.a.ten
  obtain ⟨b_0, b_1, b_2, b_3, b_4, b_5, b_6, b_7, b_8, b_9, b_f⟩ := hq.b.ten
  obtain ⟨r_0, r_1, r_2, r_3, r_4, r_5, r_6, r_7, r_8, r_9, r_f⟩ := hq.r.ten
  go_wp2
  refine bodyPost_ret (v := .tuple #[.agg #[.int .i64 0, .int .i64 0, .int .u32 0, .int .u32 0, .int .u32 0, .int .u32 0, .int .i64 0, .int .u32 0, .int .u32 0, .int .u32 0], .int .i64 c]) (by simp [results, Try.results36, go_sem, *]) rfl ⟨rfl, ?_⟩
  exact ((((((((((hq.setR 0 _).setR 1 _).setR 2 _).setR 3 _).setR 4 _).setR 5 _).setR 6 _).setR 7 _).setR 8 _).setR 9 _).z
set_option maxHeartbeats 4000000 in
theorem rthen_b (f pk a0 a1 a2 a3 pu l0 l1 l2 g qk c0 c1 c2 c3 qu n0 n1 n2 : Int) (w : World) (c : Int) (hp : chk ⟨f, pk, a0, a1, a2, a3, pu, l0, l1, l2⟩ = 0) (hc : chk ⟨g, qk, c0, c1, c2, c3, qu, n0, n1, n2⟩ = c) (h0 : c ≠ 0) : Calls Try.prog 36 #[.agg #[.int .i64 f, .int .i64 pk, .int .u32 a0, .int .u32 a1, .int .u32 a2, .int .u32 a3, .int .i64 pu, .int .u32 l0, .int .u32 l1, .int .u32 l2], .agg #[.int .i64 g, .int .i64 qk, .int .u32 c0, .int .u32 c1, .int .u32 c2, .int .u32 c3, .int .i64 qu, .int .u32 n0, .int .u32 n1, .int .u32 n2]] w fun e' w' => e' = .returned (.tuple #[.agg #[.int .i64 0, .int .i64 0, .int .u32 0, .int .u32 0, .int .u32 0, .int .u32 0, .int .i64 0, .int .u32 0, .int .u32 0, .int .u32 0], .int .i64 c]) ∧ Below w.heap.size w w' := by
  have HCP := Lib.hid hp
  have HCQ := Lib.hid hc
  have g1 : (c == 0) = false := by simp [h0]
  have g2 : (c != 0) = true := by simp [h0]
  clear hp h0 hc
  go_enter Try.func36, Try.ntmps36
  go_upto_region 1 with (fail)
  have hq := Q3.start w #[.int .i64 f, .int .i64 pk, .int .u32 a0, .int .u32 a1, .int .u32 a2, .int .u32 a3, .int .i64 pu, .int .u32 l0, .int .u32 l1, .int .u32 l2] #[.int .i64 g, .int .i64 qk, .int .u32 c0, .int .u32 c1, .int .u32 c2, .int .u32 c3, .int .i64 qu, .int .u32 n0, .int .u32 n1, .int .u32 n2] #[.int .i64 0, .int .i64 0, .int .u32 0, .int .u32 0, .int .u32 0, .int .u32 0, .int .i64 0, .int .u32 0, .int .u32 0, .int .u32 0] 30 30 30
  generalize ((w.alloc (.cells #[.int .i64 f, .int .i64 pk, .int .u32 a0, .int .u32 a1, .int .u32 a2, .int .u32 a3, .int .i64 pu, .int .u32 l0, .int .u32 l1, .int .u32 l2] 30)).alloc (.cells #[.int .i64 g, .int .i64 qk, .int .u32 c0, .int .u32 c1, .int .u32 c2, .int .u32 c3, .int .i64 qu, .int .u32 n0, .int .u32 n1, .int .u32 n2] 30)).alloc (.cells #[.int .i64 0, .int .i64 0, .int .u32 0, .int .u32 0, .int .u32 0, .int .u32 0, .int .i64 0, .int .u32 0, .int .u32 0, .int .u32 0] 30) = wc at hq ⊢
  generalize hA : w.heap.size = A at hq ⊢
  generalize hB : A + 1 = B at hq ⊢
  generalize hR : B + 1 = R at hq ⊢
  clear hA hB hR
  obtain ⟨a_0, a_1, a_2, a_3, a_4, a_5, a_6, a_7, a_8, a_9, a_f⟩ := hq.a.ten
  obtain ⟨b_0, b_1, b_2, b_3, b_4, b_5, b_6, b_7, b_8, b_9, b_f⟩ := hq.b.ten
  obtain ⟨r_0, r_1, r_2, r_3, r_4, r_5, r_6, r_7, r_8, r_9, r_f⟩ := hq.r.ten
  go_upto_region 4 with (first | (go_at_call 24; (with_reducible refine (rcheck_all f pk a0 a1 a2 a3 pu l0 l1 l2 _ _ HCP.out).mono ?_); rintro e' w1 ⟨rfl, hb1⟩; replace hq := hq.below hb1; clear hb1; clear a_0 a_1 a_2 a_3 a_4 a_5 a_6 a_7 a_8 a_9 a_f b_0 b_1 b_2 b_3 b_4 b_5 b_6 b_7 b_8 b_9 b_f r_0 r_1 r_2 r_3 r_4 r_5 r_6 r_7 r_8 r_9 r_f; obtain ⟨a_0, a_1, a_2, a_3, a_4, a_5, a_6, a_7, a_8, a_9, a_f⟩ := hq.a.ten; obtain ⟨b_0, b_1, b_2, b_3, b_4, b_5, b_6, b_7, b_8, b_9, b_f⟩ := hq.b.ten; obtain ⟨r_0, r_1, r_2, r_3, r_4, r_5, r_6, r_7, r_8, r_9, r_f⟩ := hq.r.ten) | (go_at_call 24; (with_reducible refine (rcheck_all g qk c0 c1 c2 c3 qu n0 n1 n2 _ _ HCQ.out).mono ?_); rintro e' w1 ⟨rfl, hb1⟩; replace hq := hq.below hb1; clear hb1; clear a_0 a_1 a_2 a_3 a_4 a_5 a_6 a_7 a_8 a_9 a_f b_0 b_1 b_2 b_3 b_4 b_5 b_6 b_7 b_8 b_9 b_f r_0 r_1 r_2 r_3 r_4 r_5 r_6 r_7 r_8 r_9 r_f; obtain ⟨a_0, a_1, a_2, a_3, a_4, a_5, a_6, a_7, a_8, a_9, a_f⟩ := hq.a.ten; obtain ⟨b_0, b_1, b_2, b_3, b_4, b_5, b_6, b_7, b_8, b_9, b_f⟩ := hq.b.ten; obtain ⟨r_0, r_1, r_2, r_3, r_4, r_5, r_6, r_7, r_8, r_9, r_f⟩ := hq.r.ten))
  clear a_0 a_1 a_2 a_3 a_4 a_5 a_6 a_7 a_8 a_9 a_f b_0 b_1 b_2 b_3 b_4 b_5 b_6 b_7 b_8 b_9 b_f r_0 r_1 r_2 r_3 r_4 r_5 r_6 r_7 r_8 r_9 r_f
  have hC := hq.drew.sp
  clear hq
  refine region_class (S3p w A B R f pk a0 a1 a2 a3 pu l0 l1 l2 g qk c0 c1 c2 c3 qu n0 n1 n2) (by kernel_rfl) (by kernel_rfl) hC ?_
  clear hC
  repeat
    (refine step_class (fun K hK => ?_)
     go_simp
     first
       | (refine hK _ ?_; clear hK K)
       | (with_reducible apply Hq.of
          · intro wv hv
            have Hv := Lib.hid hv
            obtain ⟨hz, ⟨_, _, _, _, _, _, _, _, _, _, _⟩, ⟨_, _, _, _, _, _, _, _, _, _, _⟩, ⟨_, _, _, _, _, _, _, _, _, _, _⟩⟩ := hv
            go_simp
            (first
              | (with_reducible exact rfl)
              )
          refine hK _ ?_
          clear hK K))
  refine nil_class ?_
  intro wq hq4
  have hq := hq4.1
  clear hq4
  obtain ⟨a_0, a_1, a_2, a_3, a_4, a_5, a_6, a_7, a_8, a_9, a_f⟩ := hq.a.ten
  obtain ⟨b_0, b_1, b_2, b_3, b_4, b_5, b_6, b_7, b_8, b_9, b_f⟩ := hq.b.ten
  obtain ⟨r_0, r_1, r_2, r_3, r_4, r_5, r_6, r_7, r_8, r_9, r_f⟩ := hq.r.ten
  go_wp2
  refine bodyPost_ret (v := .tuple #[.agg #[.int .i64 0, .int .i64 0, .int .u32 0, .int .u32 0, .int .u32 0, .int .u32 0, .int .i64 0, .int .u32 0, .int .u32 0, .int .u32 0], .int .i64 c]) (by simp [results, Try.results36, go_sem, *]) rfl ⟨rfl, ?_⟩
  exact ((((((((((hq.setR 0 _).setR 1 _).setR 2 _).setR 3 _).setR 4 _).setR 5 _).setR 6 _).setR 7 _).setR 8 _).setR 9 _).z
set_option maxHeartbeats 4000000 in
theorem rthen_c (f pk a0 a1 a2 a3 pu l0 l1 l2 g qk c0 c1 c2 c3 qu n0 n1 n2 : Int) (w : World) (t : Int) (hp : chk ⟨f, pk, a0, a1, a2, a3, pu, l0, l1, l2⟩ = 0) (hc : chk ⟨g, qk, c0, c1, c2, c3, qu, n0, n1, n2⟩ = 0) (ht : toR ⟨f, pk, a0, a1, a2, a3, pu, l0, l1, l2⟩ = t) (h0 : t ≠ g) : Calls Try.prog 36 #[.agg #[.int .i64 f, .int .i64 pk, .int .u32 a0, .int .u32 a1, .int .u32 a2, .int .u32 a3, .int .i64 pu, .int .u32 l0, .int .u32 l1, .int .u32 l2], .agg #[.int .i64 g, .int .i64 qk, .int .u32 c0, .int .u32 c1, .int .u32 c2, .int .u32 c3, .int .i64 qu, .int .u32 n0, .int .u32 n1, .int .u32 n2]] w fun e' w' => e' = .returned (.tuple #[.agg #[.int .i64 0, .int .i64 0, .int .u32 0, .int .u32 0, .int .u32 0, .int .u32 0, .int .i64 0, .int .u32 0, .int .u32 0, .int .u32 0], .int .i64 10]) ∧ Below w.heap.size w w' := by
  have HCP := Lib.hid hp
  have HCQ := Lib.hid hc
  have HT := Lib.hid ht
  have g2 : (t != g) = true := by simp [h0]
  clear hp h0 hc ht
  go_enter Try.func36, Try.ntmps36
  go_upto_region 1 with (fail)
  have hq := Q3.start w #[.int .i64 f, .int .i64 pk, .int .u32 a0, .int .u32 a1, .int .u32 a2, .int .u32 a3, .int .i64 pu, .int .u32 l0, .int .u32 l1, .int .u32 l2] #[.int .i64 g, .int .i64 qk, .int .u32 c0, .int .u32 c1, .int .u32 c2, .int .u32 c3, .int .i64 qu, .int .u32 n0, .int .u32 n1, .int .u32 n2] #[.int .i64 0, .int .i64 0, .int .u32 0, .int .u32 0, .int .u32 0, .int .u32 0, .int .i64 0, .int .u32 0, .int .u32 0, .int .u32 0] 30 30 30
  generalize ((w.alloc (.cells #[.int .i64 f, .int .i64 pk, .int .u32 a0, .int .u32 a1, .int .u32 a2, .int .u32 a3, .int .i64 pu, .int .u32 l0, .int .u32 l1, .int .u32 l2] 30)).alloc (.cells #[.int .i64 g, .int .i64 qk, .int .u32 c0, .int .u32 c1, .int .u32 c2, .int .u32 c3, .int .i64 qu, .int .u32 n0, .int .u32 n1, .int .u32 n2] 30)).alloc (.cells #[.int .i64 0, .int .i64 0, .int .u32 0, .int .u32 0, .int .u32 0, .int .u32 0, .int .i64 0, .int .u32 0, .int .u32 0, .int .u32 0] 30) = wc at hq ⊢
  generalize hA : w.heap.size = A at hq ⊢
  generalize hB : A + 1 = B at hq ⊢
  generalize hR : B + 1 = R at hq ⊢
  clear hA hB hR
  obtain ⟨a_0, a_1, a_2, a_3, a_4, a_5, a_6, a_7, a_8, a_9, a_f⟩ := hq.a.ten
  obtain ⟨b_0, b_1, b_2, b_3, b_4, b_5, b_6, b_7, b_8, b_9, b_f⟩ := hq.b.ten
  obtain ⟨r_0, r_1, r_2, r_3, r_4, r_5, r_6, r_7, r_8, r_9, r_f⟩ := hq.r.ten
  go_upto_region 4 with (first | (go_at_call 24; (with_reducible refine (rcheck_all f pk a0 a1 a2 a3 pu l0 l1 l2 _ _ HCP.out).mono ?_); rintro e' w1 ⟨rfl, hb1⟩; replace hq := hq.below hb1; clear hb1; clear a_0 a_1 a_2 a_3 a_4 a_5 a_6 a_7 a_8 a_9 a_f b_0 b_1 b_2 b_3 b_4 b_5 b_6 b_7 b_8 b_9 b_f r_0 r_1 r_2 r_3 r_4 r_5 r_6 r_7 r_8 r_9 r_f; obtain ⟨a_0, a_1, a_2, a_3, a_4, a_5, a_6, a_7, a_8, a_9, a_f⟩ := hq.a.ten; obtain ⟨b_0, b_1, b_2, b_3, b_4, b_5, b_6, b_7, b_8, b_9, b_f⟩ := hq.b.ten; obtain ⟨r_0, r_1, r_2, r_3, r_4, r_5, r_6, r_7, r_8, r_9, r_f⟩ := hq.r.ten) | (go_at_call 24; (with_reducible refine (rcheck_all g qk c0 c1 c2 c3 qu n0 n1 n2 _ _ HCQ.out).mono ?_); rintro e' w1 ⟨rfl, hb1⟩; replace hq := hq.below hb1; clear hb1; clear a_0 a_1 a_2 a_3 a_4 a_5 a_6 a_7 a_8 a_9 a_f b_0 b_1 b_2 b_3 b_4 b_5 b_6 b_7 b_8 b_9 b_f r_0 r_1 r_2 r_3 r_4 r_5 r_6 r_7 r_8 r_9 r_f; obtain ⟨a_0, a_1, a_2, a_3, a_4, a_5, a_6, a_7, a_8, a_9, a_f⟩ := hq.a.ten; obtain ⟨b_0, b_1, b_2, b_3, b_4, b_5, b_6, b_7, b_8, b_9, b_f⟩ := hq.b.ten; obtain ⟨r_0, r_1, r_2, r_3, r_4, r_5, r_6, r_7, r_8, r_9, r_f⟩ := hq.r.ten))
  clear a_0 a_1 a_2 a_3 a_4 a_5 a_6 a_7 a_8 a_9 a_f b_0 b_1 b_2 b_3 b_4 b_5 b_6 b_7 b_8 b_9 b_f r_0 r_1 r_2 r_3 r_4 r_5 r_6 r_7 r_8 r_9 r_f
  have hC := hq.drew.sp
  clear hq
  refine region_class (S3p w A B R f pk a0 a1 a2 a3 pu l0 l1 l2 g qk c0 c1 c2 c3 qu n0 n1 n2) (by kernel_rfl) (by kernel_rfl) hC ?_
  clear hC
  repeat
    (refine step_class (fun K hK => ?_)
     go_simp
     first
       | (refine hK _ ?_; clear hK K)
       | (with_reducible apply Hq.of
          · intro wv hv
            have Hv := Lib.hid hv
            obtain ⟨hz, ⟨_, _, _, _, _, _, _, _, _, _, _⟩, ⟨_, _, _, _, _, _, _, _, _, _, _⟩, ⟨_, _, _, _, _, _, _, _, _, _, _⟩⟩ := hv
            go_simp
            (first
              | (with_reducible exact rfl)
              | (go_at_call 26; (with_reducible refine (rto_all f pk a0 a1 a2 a3 pu l0 l1 l2 _ _ HT.out).mono ?_); rintro e' w1 ⟨rfl, hb1⟩; exact ⟨rfl, s3p_below hb1 Hv.out⟩))
          refine hK _ ?_
          clear hK K))
  refine nil_class ?_
  intro wq hq4
  have hq := hq4.1
  clear hq4
  obtain ⟨a_0, a_1, a_2, a_3, a_4, a_5, a_6, a_7, a_8, a_9, a_f⟩ := hq.a.ten
  obtain ⟨b_0, b_1, b_2, b_3, b_4, b_5, b_6, b_7, b_8, b_9, b_f⟩ := hq.b.ten
  obtain ⟨r_0, r_1, r_2, r_3, r_4, r_5, r_6, r_7, r_8, r_9, r_f⟩ := hq.r.ten
  go_wp2
  refine bodyPost_ret (v := .tuple #[.agg #[.int .i64 0, .int .i64 0, .int .u32 0, .int .u32 0, .int .u32 0, .int .u32 0, .int .i64 0, .int .u32 0, .int .u32 0, .int .u32 0], .int .i64 10]) (by simp [results, Try.results36, go_sem, *]) rfl ⟨rfl, ?_⟩
  exact ((((((((((hq.setR 0 _).setR 1 _).setR 2 _).setR 3 _).setR 4 _).setR 5 _).setR 6 _).setR 7 _).setR 8 _).setR 9 _).z
theorem thP_eq {p q : Pa} {K M qu : Nat} {y0 y1 y2 y3 z0 z1 z2 : Int} (hK : thK p q = K) (hM : thM p q = M) (hu : q.u = qu)
    (hy : ∀ t : Nat, t ≤ 3 → (⟨0, 0, y0, y1, y2, y3, 0, 0, 0, 0⟩ : Pa).A t = if t < K + 1 then p.A t + q.A t else 0)
    (hz : ∀ t : Nat, t ≤ 2 → (⟨0, 0, z0, z1, z2⟩ : Tm).L t = if t < M then p.L t + q.A (1 + p.k + t) else if t < M + qu then q.L ((t : Int) - M) else 0) :
    thP p q = ⟨p.f, K, y0, y1, y2, y3, M + qu, z0, z1, z2⟩ := by
  refine pa_ext rfl hK (by show thM p q + q.u = _; rw [hM, hu]) (fun i h0 h3 => ?_) (fun i h0 h2 => ?_)
  · rw [th_A p q i h0 h3]
    obtain ⟨t, rfl⟩ := Int.eq_ofNat_of_zero_le h0
    refine Eq.trans ?_ (hy t (by omega)).symm
    unfold thA
    rw [hK]
    by_cases c : t < K + 1
    · rw [if_pos (by omega), if_pos c]
    · rw [if_neg (by omega), if_neg c]
  · rw [th_L p q i h0 h2]
    obtain ⟨t, rfl⟩ := Int.eq_ofNat_of_zero_le h0
    refine Eq.trans ?_ (hz t (by omega)).symm
    unfold thL
    rw [hM, hu]
    by_cases c : t < M
    · rw [if_pos (by omega), if_pos c]
    · rw [if_neg (by omega), if_neg c]
      by_cases c' : t < M + qu
      · rw [if_pos (by omega), if_pos c']
      · rw [if_neg (by omega), if_neg c']
set_option maxRecDepth 100000 in
set_option maxHeartbeats 16000000 in
theorem rthen_d (f a0 a1 a2 a3 l0 l1 l2 c0 c1 c2 c3 n0 n1 n2 : Int) (pk pu qk qu : Nat) (w : World) (hp : chk ⟨f, pk, a0, a1, a2, a3, pu, l0, l1, l2⟩ = 0) (hc : chk ⟨(↑pk + ↑pu), qk, c0, c1, c2, c3, qu, n0, n1, n2⟩ = 0) (okp : PaOk ⟨f, pk, a0, a1, a2, a3, pu, l0, l1, l2⟩) (okq : PaOk ⟨(↑pk + ↑pu), qk, c0, c1, c2, c3, qu, n0, n1, n2⟩) (x : Pa) (c : Int) (hx : thenR ⟨f, pk, a0, a1, a2, a3, pu, l0, l1, l2⟩ ⟨(↑pk + ↑pu), qk, c0, c1, c2, c3, qu, n0, n1, n2⟩ = (x, c)) : Calls Try.prog 36 #[.agg #[.int .i64 f, .int .i64 pk, .int .u32 a0, .int .u32 a1, .int .u32 a2, .int .u32 a3, .int .i64 pu, .int .u32 l0, .int .u32 l1, .int .u32 l2], .agg #[.int .i64 (↑pk + ↑pu), .int .i64 qk, .int .u32 c0, .int .u32 c1, .int .u32 c2, .int .u32 c3, .int .i64 qu, .int .u32 n0, .int .u32 n1, .int .u32 n2]] w fun e' w' => e' = .returned (.tuple #[.agg #[.int .i64 x.f, .int .i64 x.k, .int .u32 x.a0, .int .u32 x.a1, .int .u32 x.a2, .int .u32 x.a3, .int .i64 x.u, .int .u32 x.l0, .int .u32 x.l1, .int .u32 x.l2], .int .i64 c]) ∧ Below w.heap.size w w' := by
  have HCP := Lib.hid hp
  have HCQ := Lib.hid hc
  have gp := good_iff.1 hp
  have gq := good_iff.1 hc
  have HT := Lib.hid gp.to
  have HX := Lib.hid hx
  have hpu : pk + pu ≤ 3 := by have := gp.u3; simp only at this; omega
  have hqu : qk + qu ≤ 3 := by have := gq.u3; simp only at this; omega
  have hqk : qk ≤ pk + pu := by have := gq.kf; simp only at this; omega
  obtain ⟨⟨p0, _⟩, ⟨p1, _⟩, ⟨p2, _⟩, ⟨p3, _⟩, ⟨p4, _⟩, ⟨p5, _⟩, ⟨p6, _⟩⟩ := okp
  obtain ⟨⟨q0, _⟩, ⟨q1, _⟩, ⟨q2, _⟩, ⟨q3, _⟩, _⟩ := okq
  simp only at p0 p1 p2 p3 p4 p5 p6 q0 q1 q2 q3
  have b0 : IntKind.u32.wrap (a0 + c0) = a0 + c0 := wrapU p0 gp.g0 q0 gq.g0
  have b1 : IntKind.u32.wrap (a1 + c1) = a1 + c1 := wrapU p1 gp.g1 q1 gq.g1
  have b2 : IntKind.u32.wrap (a2 + c2) = a2 + c2 := wrapU p2 gp.g2 q2 gq.g2
  have b3 : IntKind.u32.wrap (a3 + c3) = a3 + c3 := wrapU p3 gp.g3 q3 gq.g3
  have b4 : IntKind.u32.wrap (l0 + c1) = l0 + c1 := wrapU p4 gp.h0 q1 gq.g1
  have b5 : IntKind.u32.wrap (l0 + c2) = l0 + c2 := wrapU p4 gp.h0 q2 gq.g2
  have b6 : IntKind.u32.wrap (l0 + c3) = l0 + c3 := wrapU p4 gp.h0 q3 gq.g3
  have b7 : IntKind.u32.wrap (l1 + c2) = l1 + c2 := wrapU p5 gp.h1 q2 gq.g2
  have b8 : IntKind.u32.wrap (l1 + c3) = l1 + c3 := wrapU p5 gp.h1 q3 gq.g3
  have b9 : IntKind.u32.wrap (l2 + c3) = l2 + c3 := wrapU p6 gp.h2 q3 gq.g3
  have HG := Lib.hid gp
  have HGQ := Lib.hid gq
  clear hp hc hx gp gq
  go_enter Try.func36, Try.ntmps36
  go_upto_region 1 with (fail)
  have hq := Q3.start w #[.int .i64 f, .int .i64 pk, .int .u32 a0, .int .u32 a1, .int .u32 a2, .int .u32 a3, .int .i64 pu, .int .u32 l0, .int .u32 l1, .int .u32 l2] #[.int .i64 (↑pk + ↑pu), .int .i64 qk, .int .u32 c0, .int .u32 c1, .int .u32 c2, .int .u32 c3, .int .i64 qu, .int .u32 n0, .int .u32 n1, .int .u32 n2] #[.int .i64 0, .int .i64 0, .int .u32 0, .int .u32 0, .int .u32 0, .int .u32 0, .int .i64 0, .int .u32 0, .int .u32 0, .int .u32 0] 30 30 30
  generalize ((w.alloc (.cells #[.int .i64 f, .int .i64 pk, .int .u32 a0, .int .u32 a1, .int .u32 a2, .int .u32 a3, .int .i64 pu, .int .u32 l0, .int .u32 l1, .int .u32 l2] 30)).alloc (.cells #[.int .i64 (↑pk + ↑pu), .int .i64 qk, .int .u32 c0, .int .u32 c1, .int .u32 c2, .int .u32 c3, .int .i64 qu, .int .u32 n0, .int .u32 n1, .int .u32 n2] 30)).alloc (.cells #[.int .i64 0, .int .i64 0, .int .u32 0, .int .u32 0, .int .u32 0, .int .u32 0, .int .i64 0, .int .u32 0, .int .u32 0, .int .u32 0] 30) = wc at hq ⊢
  generalize hA : w.heap.size = A at hq ⊢
  generalize hB : A + 1 = B at hq ⊢
  generalize hR : B + 1 = R at hq ⊢
  clear hA hB hR
  obtain ⟨a_0, a_1, a_2, a_3, a_4, a_5, a_6, a_7, a_8, a_9, a_f⟩ := hq.a.ten
  obtain ⟨b_0, b_1, b_2, b_3, b_4, b_5, b_6, b_7, b_8, b_9, b_f⟩ := hq.b.ten
  obtain ⟨r_0, r_1, r_2, r_3, r_4, r_5, r_6, r_7, r_8, r_9, r_f⟩ := hq.r.ten
  go_upto_region 4 with (first | (go_at_call 24; (with_reducible refine (rcheck_all f pk a0 a1 a2 a3 pu l0 l1 l2 _ _ HCP.out).mono ?_); rintro e' w1 ⟨rfl, hb1⟩; replace hq := hq.below hb1; clear hb1; clear a_0 a_1 a_2 a_3 a_4 a_5 a_6 a_7 a_8 a_9 a_f b_0 b_1 b_2 b_3 b_4 b_5 b_6 b_7 b_8 b_9 b_f r_0 r_1 r_2 r_3 r_4 r_5 r_6 r_7 r_8 r_9 r_f; obtain ⟨a_0, a_1, a_2, a_3, a_4, a_5, a_6, a_7, a_8, a_9, a_f⟩ := hq.a.ten; obtain ⟨b_0, b_1, b_2, b_3, b_4, b_5, b_6, b_7, b_8, b_9, b_f⟩ := hq.b.ten; obtain ⟨r_0, r_1, r_2, r_3, r_4, r_5, r_6, r_7, r_8, r_9, r_f⟩ := hq.r.ten) | (go_at_call 24; (with_reducible refine (rcheck_all (↑pk + ↑pu) qk c0 c1 c2 c3 qu n0 n1 n2 _ _ HCQ.out).mono ?_); rintro e' w1 ⟨rfl, hb1⟩; replace hq := hq.below hb1; clear hb1; clear a_0 a_1 a_2 a_3 a_4 a_5 a_6 a_7 a_8 a_9 a_f b_0 b_1 b_2 b_3 b_4 b_5 b_6 b_7 b_8 b_9 b_f r_0 r_1 r_2 r_3 r_4 r_5 r_6 r_7 r_8 r_9 r_f; obtain ⟨a_0, a_1, a_2, a_3, a_4, a_5, a_6, a_7, a_8, a_9, a_f⟩ := hq.a.ten; obtain ⟨b_0, b_1, b_2, b_3, b_4, b_5, b_6, b_7, b_8, b_9, b_f⟩ := hq.b.ten; obtain ⟨r_0, r_1, r_2, r_3, r_4, r_5, r_6, r_7, r_8, r_9, r_f⟩ := hq.r.ten))
  clear a_0 a_1 a_2 a_3 a_4 a_5 a_6 a_7 a_8 a_9 a_f b_0 b_1 b_2 b_3 b_4 b_5 b_6 b_7 b_8 b_9 b_f r_0 r_1 r_2 r_3 r_4 r_5 r_6 r_7 r_8 r_9 r_f
  have hC := hq.drew.sp
  clear hq
  refine region_class (S3p w A B R f pk a0 a1 a2 a3 pu l0 l1 l2 (↑pk + ↑pu) qk c0 c1 c2 c3 qu n0 n1 n2) (by kernel_rfl) (by kernel_rfl) hC ?_
  clear hC
  repeat
    (refine step_class (fun K hK => ?_)
     go_simp
     first
       | (refine hK _ ?_; clear hK K)
       | (with_reducible apply Hq.of
          · intro wv hv
            have Hv := Lib.hid hv
            obtain ⟨hz, ⟨_, _, _, _, _, _, _, _, _, _, _⟩, ⟨_, _, _, _, _, _, _, _, _, _, _⟩, ⟨_, _, _, _, _, _, _, _, _, _, _⟩⟩ := hv
            go_simp
            (first
              | (with_reducible exact rfl)
              | (go_at_call 26; (with_reducible refine (rto_all f pk a0 a1 a2 a3 pu l0 l1 l2 _ _ HT.out).mono ?_); rintro e' w1 ⟨rfl, hb1⟩; exact ⟨rfl, s3p_below hb1 Hv.out⟩))
          refine hK _ ?_
          clear hK K))
  refine nil_class ?_
  intro wq hq4
  have hq := hq4.1
  clear hq4
  obtain ⟨a_0, a_1, a_2, a_3, a_4, a_5, a_6, a_7, a_8, a_9, a_f⟩ := hq.a.ten
  obtain ⟨b_0, b_1, b_2, b_3, b_4, b_5, b_6, b_7, b_8, b_9, b_f⟩ := hq.b.ten
  obtain ⟨r_0, r_1, r_2, r_3, r_4, r_5, r_6, r_7, r_8, r_9, r_f⟩ := hq.r.ten
  obtain ⟨K, hK⟩ : ∃ K, K = min pk qk := ⟨_, rfl⟩
  obtain ⟨M, hM⟩ : ∃ M, M = qk - pk := ⟨_, rfl⟩
  have HK := Lib.hid hK
  have HM := Lib.hid hM
  have hK3 : K ≤ 3 := by omega
  have hMq : M + qu ≤ 3 := by omega
  clear hK hM
  go_upto_region 8 with (fail)
  go_cut [7] (fun v7 wr => ∃ X, v7 = .pointer (some ⟨X, 0, none⟩) ∧ Q4 w A B R X #[.int .i64 f, .int .i64 pk, .int .u32 a0, .int .u32 a1, .int .u32 a2, .int .u32 a3, .int .i64 pu, .int .u32 l0, .int .u32 l1, .int .u32 l2] #[.int .i64 (↑pk + ↑pu), .int .i64 qk, .int .u32 c0, .int .u32 c1, .int .u32 c2, .int .u32 c3, .int .i64 qu, .int .u32 n0, .int .u32 n1, .int .u32 n2] #[.int .i64 0, .int .i64 0, .int .u32 0, .int .u32 0, .int .u32 0, .int .u32 0, .int .i64 0, .int .u32 0, .int .u32 0, .int .u32 0] #[.int .i64 f, .int .i64 K, .int .u32 0, .int .u32 0, .int .u32 0, .int .u32 0, .int .i64 0, .int .u32 0, .int .u32 0, .int .u32 0] 30 30 30 30 wr)
  case first =>
    by_cases hle : pk ≤ qk
    · obtain rfl : pk = K := by have := HK.out; omega
      go_wp2
      go_meet
      case rel => exact ⟨_, rfl, hq.new _ _⟩
    · obtain rfl : qk = K := by have := HK.out; omega
      have hlt : qk < pk := by omega
      clear hle
      go_wp2
      go_meet
      case rel => exact ⟨_, rfl, hq.new _ _⟩
  case rest =>
  clear a_0 a_1 a_2 a_3 a_4 a_5 a_6 a_7 a_8 a_9 a_f b_0 b_1 b_2 b_3 b_4 b_5 b_6 b_7 b_8 b_9 b_f r_0 r_1 r_2 r_3 r_4 r_5 r_6 r_7 r_8 r_9 r_f hq
  obtain ⟨X, rfl, hq⟩ := hcut
  go_wp2
  go_loopw [8] (fun i wr => ∃ (j : Nat) (y0 y1 y2 y3 : Int), j ≤ K + 1 ∧ i = .int .i64 j ∧ Q4 w A B R X #[.int .i64 f, .int .i64 pk, .int .u32 a0, .int .u32 a1, .int .u32 a2, .int .u32 a3, .int .i64 pu, .int .u32 l0, .int .u32 l1, .int .u32 l2] #[.int .i64 (↑pk + ↑pu), .int .i64 qk, .int .u32 c0, .int .u32 c1, .int .u32 c2, .int .u32 c3, .int .i64 qu, .int .u32 n0, .int .u32 n1, .int .u32 n2] #[.int .i64 0, .int .i64 0, .int .u32 0, .int .u32 0, .int .u32 0, .int .u32 0, .int .i64 0, .int .u32 0, .int .u32 0, .int .u32 0] #[.int .i64 f, .int .i64 K, .int .u32 y0, .int .u32 y1, .int .u32 y2, .int .u32 y3, .int .i64 0, .int .u32 0, .int .u32 0, .int .u32 0] 30 30 30 30 wr ∧ Hid (∀ t : Nat, t ≤ 3 → (⟨0, 0, y0, y1, y2, y3, 0, 0, 0, 0⟩ : Pa).A t = if t < j then (⟨f, pk, a0, a1, a2, a3, pu, l0, l1, l2⟩ : Pa).A t + (⟨(↑pk + ↑pu), qk, c0, c1, c2, c3, qu, n0, n1, n2⟩ : Pa).A t else 0)) (fun i _ => K + 1 - (intOf i).toNat)
  case atStart => exact ⟨0, 0, 0, 0, 0, by omega, rfl, hq, Lib.hid (A4mk _ (by simp) (by simp) (by simp) (by simp))⟩
  case round =>
    clear hq
    obtain ⟨j, y0, y1, y2, y3, hj, rfl, hq, hy⟩ := hrel
    obtain ⟨a_0, a_1, a_2, a_3, a_4, a_5, a_6, a_7, a_8, a_9, a_f⟩ := hq.q.a.ten
    obtain ⟨b_0, b_1, b_2, b_3, b_4, b_5, b_6, b_7, b_8, b_9, b_f⟩ := hq.q.b.ten
    obtain ⟨r_0, r_1, r_2, r_3, r_4, r_5, r_6, r_7, r_8, r_9, r_f⟩ := hq.q.r.ten
    obtain ⟨x_0, x_1, x_2, x_3, x_4, x_5, x_6, x_7, x_8, x_9, x_f⟩ := hq.x.ten
    by_cases hlt : j ≤ K
    · have hj3 : j = 0 ∨ j = 1 ∨ j = 2 ∨ j = 3 := by omega
      rcases hj3 with rfl | rfl | rfl | rfl
      · have hy' : Hid (∀ t : Nat, t ≤ 3 → (⟨0, 0, a0 + c0, y1, y2, y3, 0, 0, 0, 0⟩ : Pa).A t = if t < 0 + 1 then (⟨f, pk, a0, a1, a2, a3, pu, l0, l1, l2⟩ : Pa).A t + (⟨(↑pk + ↑pu), qk, c0, c1, c2, c3, qu, n0, n1, n2⟩ : Pa).A t else 0) := Lib.hid (by
          obtain ⟨e0, e1, e2, e3⟩ := A4 _ hy.out
          refine A4mk _ ?_ ?_ ?_ ?_ <;> simp [Pa.A] at e0 e1 e2 e3 ⊢ <;> assumption)
        clear hy
        go_wp2
        go_region
        go_wp2
        go_roundw
        case rel => exact ⟨0 + 1, a0 + c0, y1, y2, y3, by omega, by go_num, hq.drew.setX 2 _, hy'⟩
        case measure => simp [intOf] <;> omega
      · have hy' : Hid (∀ t : Nat, t ≤ 3 → (⟨0, 0, y0, a1 + c1, y2, y3, 0, 0, 0, 0⟩ : Pa).A t = if t < 1 + 1 then (⟨f, pk, a0, a1, a2, a3, pu, l0, l1, l2⟩ : Pa).A t + (⟨(↑pk + ↑pu), qk, c0, c1, c2, c3, qu, n0, n1, n2⟩ : Pa).A t else 0) := Lib.hid (by
          obtain ⟨e0, e1, e2, e3⟩ := A4 _ hy.out
          refine A4mk _ ?_ ?_ ?_ ?_ <;> simp [Pa.A] at e0 e1 e2 e3 ⊢ <;> assumption)
        clear hy
        go_wp2
        go_region
        go_wp2
        go_roundw
        case rel => exact ⟨1 + 1, y0, a1 + c1, y2, y3, by omega, by go_num, hq.drew.setX 3 _, hy'⟩
        case measure => simp [intOf] <;> omega
      · have hy' : Hid (∀ t : Nat, t ≤ 3 → (⟨0, 0, y0, y1, a2 + c2, y3, 0, 0, 0, 0⟩ : Pa).A t = if t < 2 + 1 then (⟨f, pk, a0, a1, a2, a3, pu, l0, l1, l2⟩ : Pa).A t + (⟨(↑pk + ↑pu), qk, c0, c1, c2, c3, qu, n0, n1, n2⟩ : Pa).A t else 0) := Lib.hid (by
          obtain ⟨e0, e1, e2, e3⟩ := A4 _ hy.out
          refine A4mk _ ?_ ?_ ?_ ?_ <;> simp [Pa.A] at e0 e1 e2 e3 ⊢ <;> assumption)
        clear hy
        go_wp2
        go_region
        go_wp2
        go_roundw
        case rel => exact ⟨2 + 1, y0, y1, a2 + c2, y3, by omega, by go_num, hq.drew.setX 4 _, hy'⟩
        case measure => simp [intOf] <;> omega
      · have hy' : Hid (∀ t : Nat, t ≤ 3 → (⟨0, 0, y0, y1, y2, a3 + c3, 0, 0, 0, 0⟩ : Pa).A t = if t < 3 + 1 then (⟨f, pk, a0, a1, a2, a3, pu, l0, l1, l2⟩ : Pa).A t + (⟨(↑pk + ↑pu), qk, c0, c1, c2, c3, qu, n0, n1, n2⟩ : Pa).A t else 0) := Lib.hid (by
          obtain ⟨e0, e1, e2, e3⟩ := A4 _ hy.out
          refine A4mk _ ?_ ?_ ?_ ?_ <;> simp [Pa.A] at e0 e1 e2 e3 ⊢ <;> assumption)
        clear hy
        go_wp2
        go_region
        go_wp2
        go_roundw
        case rel => exact ⟨3 + 1, y0, y1, y2, a3 + c3, by omega, by go_num, hq.drew.setX 5 _, hy'⟩
        case measure => simp [intOf] <;> omega
    · obtain rfl : j = K + 1 := by omega
      clear hlt hj
      go_wp2
      go_loopw [9] (fun i wr => ∃ (j : Nat) (z0 z1 z2 : Int), j ≤ M ∧ i = .int .i64 ((pk + j : Nat) : Int) ∧ Q4 w A B R X #[.int .i64 f, .int .i64 pk, .int .u32 a0, .int .u32 a1, .int .u32 a2, .int .u32 a3, .int .i64 pu, .int .u32 l0, .int .u32 l1, .int .u32 l2] #[.int .i64 (↑pk + ↑pu), .int .i64 qk, .int .u32 c0, .int .u32 c1, .int .u32 c2, .int .u32 c3, .int .i64 qu, .int .u32 n0, .int .u32 n1, .int .u32 n2] #[.int .i64 0, .int .i64 0, .int .u32 0, .int .u32 0, .int .u32 0, .int .u32 0, .int .i64 0, .int .u32 0, .int .u32 0, .int .u32 0] #[.int .i64 f, .int .i64 K, .int .u32 y0, .int .u32 y1, .int .u32 y2, .int .u32 y3, .int .i64 j, .int .u32 z0, .int .u32 z1, .int .u32 z2] 30 30 30 30 wr ∧ Hid (∀ t : Nat, t ≤ 2 → (⟨0, 0, z0, z1, z2⟩ : Tm).L t = if t < j then (⟨f, pk, a0, a1, a2, a3, pu, l0, l1, l2⟩ : Pa).L t + (⟨(↑pk + ↑pu), qk, c0, c1, c2, c3, qu, n0, n1, n2⟩ : Pa).A (1 + pk + t) else 0)) (fun i _ => qk - (intOf i).toNat)
      case atStart => exact ⟨0, 0, 0, 0, by omega, by go_num, hq, Lib.hid (L3mk _ (by simp) (by simp) (by simp))⟩
      case round =>
        clear a_0 a_1 a_2 a_3 a_4 a_5 a_6 a_7 a_8 a_9 a_f b_0 b_1 b_2 b_3 b_4 b_5 b_6 b_7 b_8 b_9 b_f r_0 r_1 r_2 r_3 r_4 r_5 r_6 r_7 r_8 r_9 r_f x_0 x_1 x_2 x_3 x_4 x_5 x_6 x_7 x_8 x_9 x_f hq
        obtain ⟨j, z0, z1, z2, hj, rfl, hq, hz⟩ := hrel
        obtain ⟨a_0, a_1, a_2, a_3, a_4, a_5, a_6, a_7, a_8, a_9, a_f⟩ := hq.q.a.ten
        obtain ⟨b_0, b_1, b_2, b_3, b_4, b_5, b_6, b_7, b_8, b_9, b_f⟩ := hq.q.b.ten
        obtain ⟨r_0, r_1, r_2, r_3, r_4, r_5, r_6, r_7, r_8, r_9, r_f⟩ := hq.q.r.ten
        obtain ⟨x_0, x_1, x_2, x_3, x_4, x_5, x_6, x_7, x_8, x_9, x_f⟩ := hq.x.ten
        by_cases hlt : pk + j < qk
        · have hj3 : (pk = 0 ∧ j = 0) ∨ (pk = 0 ∧ j = 1) ∨ (pk = 0 ∧ j = 2) ∨ (pk = 1 ∧ j = 0) ∨ (pk = 1 ∧ j = 1) ∨ (pk = 2 ∧ j = 0) := by omega
          have hjM : j < M := by have := HM.out; omega
          rcases hj3 with ⟨rfl, rfl⟩ | ⟨rfl, rfl⟩ | ⟨rfl, rfl⟩ | ⟨rfl, rfl⟩ | ⟨rfl, rfl⟩ | ⟨rfl, rfl⟩
          · have hz' : Hid (∀ t : Nat, t ≤ 2 → (⟨0, 0, l0 + c1, z1, z2⟩ : Tm).L t = if t < 0 + 1 then (⟨f, ((0 : Nat) : Int), a0, a1, a2, a3, pu, l0, l1, l2⟩ : Pa).L t + (⟨(((0 : Nat) : Int) + ↑pu), qk, c0, c1, c2, c3, qu, n0, n1, n2⟩ : Pa).A (1 + ((0 : Nat) : Int) + t) else 0) := Lib.hid (by
              obtain ⟨e0, e1, e2⟩ := L3 _ hz.out
              refine L3mk _ ?_ ?_ ?_ <;> simp [Tm.L, Pa.A, Pa.L] at e0 e1 e2 ⊢ <;> assumption)
            clear hz
            go_wp2
            go_region
            have hq := (hq.setX 7 (.int .u32 (l0 + c1))).drew
            clear a_0 a_1 a_2 a_3 a_4 a_5 a_6 a_7 a_8 a_9 a_f b_0 b_1 b_2 b_3 b_4 b_5 b_6 b_7 b_8 b_9 b_f r_0 r_1 r_2 r_3 r_4 r_5 r_6 r_7 r_8 r_9 r_f x_0 x_1 x_2 x_3 x_4 x_5 x_6 x_7 x_8 x_9 x_f
            obtain ⟨a_0, a_1, a_2, a_3, a_4, a_5, a_6, a_7, a_8, a_9, a_f⟩ := hq.q.a.ten
            obtain ⟨b_0, b_1, b_2, b_3, b_4, b_5, b_6, b_7, b_8, b_9, b_f⟩ := hq.q.b.ten
            obtain ⟨r_0, r_1, r_2, r_3, r_4, r_5, r_6, r_7, r_8, r_9, r_f⟩ := hq.q.r.ten
            obtain ⟨x_0, x_1, x_2, x_3, x_4, x_5, x_6, x_7, x_8, x_9, x_f⟩ := hq.x.ten
            go_wp2
            go_roundw
            case rel => exact ⟨0 + 1, l0 + c1, z1, z2, by omega, by go_num, hq.setX 6 _, hz'⟩
            case measure => simp [intOf] <;> omega
          · have hz' : Hid (∀ t : Nat, t ≤ 2 → (⟨0, 0, z0, l1 + c2, z2⟩ : Tm).L t = if t < 1 + 1 then (⟨f, ((0 : Nat) : Int), a0, a1, a2, a3, pu, l0, l1, l2⟩ : Pa).L t + (⟨(((0 : Nat) : Int) + ↑pu), qk, c0, c1, c2, c3, qu, n0, n1, n2⟩ : Pa).A (1 + ((0 : Nat) : Int) + t) else 0) := Lib.hid (by
              obtain ⟨e0, e1, e2⟩ := L3 _ hz.out
              refine L3mk _ ?_ ?_ ?_ <;> simp [Tm.L, Pa.A, Pa.L] at e0 e1 e2 ⊢ <;> assumption)
            clear hz
            go_wp2
            go_region
            have hq := (hq.setX 8 (.int .u32 (l1 + c2))).drew
            clear a_0 a_1 a_2 a_3 a_4 a_5 a_6 a_7 a_8 a_9 a_f b_0 b_1 b_2 b_3 b_4 b_5 b_6 b_7 b_8 b_9 b_f r_0 r_1 r_2 r_3 r_4 r_5 r_6 r_7 r_8 r_9 r_f x_0 x_1 x_2 x_3 x_4 x_5 x_6 x_7 x_8 x_9 x_f
            obtain ⟨a_0, a_1, a_2, a_3, a_4, a_5, a_6, a_7, a_8, a_9, a_f⟩ := hq.q.a.ten
            obtain ⟨b_0, b_1, b_2, b_3, b_4, b_5, b_6, b_7, b_8, b_9, b_f⟩ := hq.q.b.ten
            obtain ⟨r_0, r_1, r_2, r_3, r_4, r_5, r_6, r_7, r_8, r_9, r_f⟩ := hq.q.r.ten
            obtain ⟨x_0, x_1, x_2, x_3, x_4, x_5, x_6, x_7, x_8, x_9, x_f⟩ := hq.x.ten
            go_wp2
            go_roundw
            case rel => exact ⟨1 + 1, z0, l1 + c2, z2, by omega, by go_num, hq.setX 6 _, hz'⟩
            case measure => simp [intOf] <;> omega
          · have hz' : Hid (∀ t : Nat, t ≤ 2 → (⟨0, 0, z0, z1, l2 + c3⟩ : Tm).L t = if t < 2 + 1 then (⟨f, ((0 : Nat) : Int), a0, a1, a2, a3, pu, l0, l1, l2⟩ : Pa).L t + (⟨(((0 : Nat) : Int) + ↑pu), qk, c0, c1, c2, c3, qu, n0, n1, n2⟩ : Pa).A (1 + ((0 : Nat) : Int) + t) else 0) := Lib.hid (by
              obtain ⟨e0, e1, e2⟩ := L3 _ hz.out
              refine L3mk _ ?_ ?_ ?_ <;> simp [Tm.L, Pa.A, Pa.L] at e0 e1 e2 ⊢ <;> assumption)
            clear hz
            go_wp2
            go_region
            have hq := (hq.setX 9 (.int .u32 (l2 + c3))).drew
            clear a_0 a_1 a_2 a_3 a_4 a_5 a_6 a_7 a_8 a_9 a_f b_0 b_1 b_2 b_3 b_4 b_5 b_6 b_7 b_8 b_9 b_f r_0 r_1 r_2 r_3 r_4 r_5 r_6 r_7 r_8 r_9 r_f x_0 x_1 x_2 x_3 x_4 x_5 x_6 x_7 x_8 x_9 x_f
            obtain ⟨a_0, a_1, a_2, a_3, a_4, a_5, a_6, a_7, a_8, a_9, a_f⟩ := hq.q.a.ten
            obtain ⟨b_0, b_1, b_2, b_3, b_4, b_5, b_6, b_7, b_8, b_9, b_f⟩ := hq.q.b.ten
            obtain ⟨r_0, r_1, r_2, r_3, r_4, r_5, r_6, r_7, r_8, r_9, r_f⟩ := hq.q.r.ten
            obtain ⟨x_0, x_1, x_2, x_3, x_4, x_5, x_6, x_7, x_8, x_9, x_f⟩ := hq.x.ten
            go_wp2
            go_roundw
            case rel => exact ⟨2 + 1, z0, z1, l2 + c3, by omega, by go_num, hq.setX 6 _, hz'⟩
            case measure => simp [intOf] <;> omega
          · have hz' : Hid (∀ t : Nat, t ≤ 2 → (⟨0, 0, l0 + c2, z1, z2⟩ : Tm).L t = if t < 0 + 1 then (⟨f, ((1 : Nat) : Int), a0, a1, a2, a3, pu, l0, l1, l2⟩ : Pa).L t + (⟨(((1 : Nat) : Int) + ↑pu), qk, c0, c1, c2, c3, qu, n0, n1, n2⟩ : Pa).A (1 + ((1 : Nat) : Int) + t) else 0) := Lib.hid (by
              obtain ⟨e0, e1, e2⟩ := L3 _ hz.out
              refine L3mk _ ?_ ?_ ?_ <;> simp [Tm.L, Pa.A, Pa.L] at e0 e1 e2 ⊢ <;> assumption)
            clear hz
            go_wp2
            go_region
            have hq := (hq.setX 7 (.int .u32 (l0 + c2))).drew
            clear a_0 a_1 a_2 a_3 a_4 a_5 a_6 a_7 a_8 a_9 a_f b_0 b_1 b_2 b_3 b_4 b_5 b_6 b_7 b_8 b_9 b_f r_0 r_1 r_2 r_3 r_4 r_5 r_6 r_7 r_8 r_9 r_f x_0 x_1 x_2 x_3 x_4 x_5 x_6 x_7 x_8 x_9 x_f
            obtain ⟨a_0, a_1, a_2, a_3, a_4, a_5, a_6, a_7, a_8, a_9, a_f⟩ := hq.q.a.ten
            obtain ⟨b_0, b_1, b_2, b_3, b_4, b_5, b_6, b_7, b_8, b_9, b_f⟩ := hq.q.b.ten
            obtain ⟨r_0, r_1, r_2, r_3, r_4, r_5, r_6, r_7, r_8, r_9, r_f⟩ := hq.q.r.ten
            obtain ⟨x_0, x_1, x_2, x_3, x_4, x_5, x_6, x_7, x_8, x_9, x_f⟩ := hq.x.ten
            go_wp2
            go_roundw
            case rel => exact ⟨0 + 1, l0 + c2, z1, z2, by omega, by go_num, hq.setX 6 _, hz'⟩
            case measure => simp [intOf] <;> omega
          · have hz' : Hid (∀ t : Nat, t ≤ 2 → (⟨0, 0, z0, l1 + c3, z2⟩ : Tm).L t = if t < 1 + 1 then (⟨f, ((1 : Nat) : Int), a0, a1, a2, a3, pu, l0, l1, l2⟩ : Pa).L t + (⟨(((1 : Nat) : Int) + ↑pu), qk, c0, c1, c2, c3, qu, n0, n1, n2⟩ : Pa).A (1 + ((1 : Nat) : Int) + t) else 0) := Lib.hid (by
              obtain ⟨e0, e1, e2⟩ := L3 _ hz.out
              refine L3mk _ ?_ ?_ ?_ <;> simp [Tm.L, Pa.A, Pa.L] at e0 e1 e2 ⊢ <;> assumption)
            clear hz
            go_wp2
            go_region
            have hq := (hq.setX 8 (.int .u32 (l1 + c3))).drew
            clear a_0 a_1 a_2 a_3 a_4 a_5 a_6 a_7 a_8 a_9 a_f b_0 b_1 b_2 b_3 b_4 b_5 b_6 b_7 b_8 b_9 b_f r_0 r_1 r_2 r_3 r_4 r_5 r_6 r_7 r_8 r_9 r_f x_0 x_1 x_2 x_3 x_4 x_5 x_6 x_7 x_8 x_9 x_f
            obtain ⟨a_0, a_1, a_2, a_3, a_4, a_5, a_6, a_7, a_8, a_9, a_f⟩ := hq.q.a.ten
            obtain ⟨b_0, b_1, b_2, b_3, b_4, b_5, b_6, b_7, b_8, b_9, b_f⟩ := hq.q.b.ten
            obtain ⟨r_0, r_1, r_2, r_3, r_4, r_5, r_6, r_7, r_8, r_9, r_f⟩ := hq.q.r.ten
            obtain ⟨x_0, x_1, x_2, x_3, x_4, x_5, x_6, x_7, x_8, x_9, x_f⟩ := hq.x.ten
            go_wp2
            go_roundw
            case rel => exact ⟨1 + 1, z0, l1 + c3, z2, by omega, by go_num, hq.setX 6 _, hz'⟩
            case measure => simp [intOf] <;> omega
          · have hz' : Hid (∀ t : Nat, t ≤ 2 → (⟨0, 0, l0 + c3, z1, z2⟩ : Tm).L t = if t < 0 + 1 then (⟨f, ((2 : Nat) : Int), a0, a1, a2, a3, pu, l0, l1, l2⟩ : Pa).L t + (⟨(((2 : Nat) : Int) + ↑pu), qk, c0, c1, c2, c3, qu, n0, n1, n2⟩ : Pa).A (1 + ((2 : Nat) : Int) + t) else 0) := Lib.hid (by
              obtain ⟨e0, e1, e2⟩ := L3 _ hz.out
              refine L3mk _ ?_ ?_ ?_ <;> simp [Tm.L, Pa.A, Pa.L] at e0 e1 e2 ⊢ <;> assumption)
            clear hz
            go_wp2
            go_region
            have hq := (hq.setX 7 (.int .u32 (l0 + c3))).drew
            clear a_0 a_1 a_2 a_3 a_4 a_5 a_6 a_7 a_8 a_9 a_f b_0 b_1 b_2 b_3 b_4 b_5 b_6 b_7 b_8 b_9 b_f r_0 r_1 r_2 r_3 r_4 r_5 r_6 r_7 r_8 r_9 r_f x_0 x_1 x_2 x_3 x_4 x_5 x_6 x_7 x_8 x_9 x_f
            obtain ⟨a_0, a_1, a_2, a_3, a_4, a_5, a_6, a_7, a_8, a_9, a_f⟩ := hq.q.a.ten
            obtain ⟨b_0, b_1, b_2, b_3, b_4, b_5, b_6, b_7, b_8, b_9, b_f⟩ := hq.q.b.ten
            obtain ⟨r_0, r_1, r_2, r_3, r_4, r_5, r_6, r_7, r_8, r_9, r_f⟩ := hq.q.r.ten
            obtain ⟨x_0, x_1, x_2, x_3, x_4, x_5, x_6, x_7, x_8, x_9, x_f⟩ := hq.x.ten
            go_wp2
            go_roundw
            case rel => exact ⟨0 + 1, l0 + c3, z1, z2, by omega, by go_num, hq.setX 6 _, hz'⟩
            case measure => simp [intOf] <;> omega
        · obtain rfl : M = j := by have := HM.out; omega
          clear hj
          go_wp2
          go_loopw [10] (fun i wr => ∃ (j : Nat) (z0 z1 z2 : Int), j ≤ qu ∧ i = .int .i64 j ∧ Q4 w A B R X #[.int .i64 f, .int .i64 pk, .int .u32 a0, .int .u32 a1, .int .u32 a2, .int .u32 a3, .int .i64 pu, .int .u32 l0, .int .u32 l1, .int .u32 l2] #[.int .i64 (↑pk + ↑pu), .int .i64 qk, .int .u32 c0, .int .u32 c1, .int .u32 c2, .int .u32 c3, .int .i64 qu, .int .u32 n0, .int .u32 n1, .int .u32 n2] #[.int .i64 0, .int .i64 0, .int .u32 0, .int .u32 0, .int .u32 0, .int .u32 0, .int .i64 0, .int .u32 0, .int .u32 0, .int .u32 0] #[.int .i64 f, .int .i64 K, .int .u32 y0, .int .u32 y1, .int .u32 y2, .int .u32 y3, .int .i64 ((M + j : Nat) : Int), .int .u32 z0, .int .u32 z1, .int .u32 z2] 30 30 30 30 wr ∧ Hid (∀ t : Nat, t ≤ 2 → (⟨0, 0, z0, z1, z2⟩ : Tm).L t = if t < M then (⟨f, pk, a0, a1, a2, a3, pu, l0, l1, l2⟩ : Pa).L t + (⟨(↑pk + ↑pu), qk, c0, c1, c2, c3, qu, n0, n1, n2⟩ : Pa).A (1 + pk + t) else if t < M + j then (⟨(↑pk + ↑pu), qk, c0, c1, c2, c3, qu, n0, n1, n2⟩ : Pa).L ((t : Int) - M) else 0)) (fun i _ => qu - (intOf i).toNat)
          case atStart => exact ⟨0, z0, z1, z2, by omega, rfl, hq, Lib.hid (by
            obtain ⟨e0, e1, e2⟩ := L3 _ hz.out
            refine L3mk _ ?_ ?_ ?_ <;> simp [Tm.L, Pa.A] at e0 e1 e2 ⊢ <;> (try split) <;> simp_all)⟩
          case round =>
            clear a_0 a_1 a_2 a_3 a_4 a_5 a_6 a_7 a_8 a_9 a_f b_0 b_1 b_2 b_3 b_4 b_5 b_6 b_7 b_8 b_9 b_f r_0 r_1 r_2 r_3 r_4 r_5 r_6 r_7 r_8 r_9 r_f x_0 x_1 x_2 x_3 x_4 x_5 x_6 x_7 x_8 x_9 x_f hq hz
            clear z0 z1 z2
            obtain ⟨j, z0, z1, z2, hj, rfl, hq, hz⟩ := hrel
            obtain ⟨a_0, a_1, a_2, a_3, a_4, a_5, a_6, a_7, a_8, a_9, a_f⟩ := hq.q.a.ten
            obtain ⟨b_0, b_1, b_2, b_3, b_4, b_5, b_6, b_7, b_8, b_9, b_f⟩ := hq.q.b.ten
            obtain ⟨r_0, r_1, r_2, r_3, r_4, r_5, r_6, r_7, r_8, r_9, r_f⟩ := hq.q.r.ten
            obtain ⟨x_0, x_1, x_2, x_3, x_4, x_5, x_6, x_7, x_8, x_9, x_f⟩ := hq.x.ten
            by_cases hlt : j < qu
            · have hj3 : (M = 0 ∧ j = 0) ∨ (M = 0 ∧ j = 1) ∨ (M = 0 ∧ j = 2) ∨ (M = 1 ∧ j = 0) ∨ (M = 1 ∧ j = 1) ∨ (M = 2 ∧ j = 0) := by omega
              rcases hj3 with ⟨rfl, rfl⟩ | ⟨rfl, rfl⟩ | ⟨rfl, rfl⟩ | ⟨rfl, rfl⟩ | ⟨rfl, rfl⟩ | ⟨rfl, rfl⟩
              · have hz' : Hid (∀ t : Nat, t ≤ 2 → (⟨0, 0, n0, z1, z2⟩ : Tm).L t = if t < 0 then (⟨f, pk, a0, a1, a2, a3, pu, l0, l1, l2⟩ : Pa).L t + (⟨(↑pk + ↑pu), qk, c0, c1, c2, c3, qu, n0, n1, n2⟩ : Pa).A (1 + pk + t) else if t < 0 + (0 + 1) then (⟨(↑pk + ↑pu), qk, c0, c1, c2, c3, qu, n0, n1, n2⟩ : Pa).L ((t : Int) - ((0 : Nat) : Int)) else 0) := Lib.hid (by
                  obtain ⟨e0, e1, e2⟩ := L3 _ hz.out
                  refine L3mk _ ?_ ?_ ?_ <;> simp [Tm.L, Pa.A, Pa.L] at e0 e1 e2 ⊢ <;> assumption)
                clear hz
                go_wp2
                go_region
                have hq := (hq.setX 7 (.int .u32 n0)).drew
                clear a_0 a_1 a_2 a_3 a_4 a_5 a_6 a_7 a_8 a_9 a_f b_0 b_1 b_2 b_3 b_4 b_5 b_6 b_7 b_8 b_9 b_f r_0 r_1 r_2 r_3 r_4 r_5 r_6 r_7 r_8 r_9 r_f x_0 x_1 x_2 x_3 x_4 x_5 x_6 x_7 x_8 x_9 x_f
                obtain ⟨a_0, a_1, a_2, a_3, a_4, a_5, a_6, a_7, a_8, a_9, a_f⟩ := hq.q.a.ten
                obtain ⟨b_0, b_1, b_2, b_3, b_4, b_5, b_6, b_7, b_8, b_9, b_f⟩ := hq.q.b.ten
                obtain ⟨r_0, r_1, r_2, r_3, r_4, r_5, r_6, r_7, r_8, r_9, r_f⟩ := hq.q.r.ten
                obtain ⟨x_0, x_1, x_2, x_3, x_4, x_5, x_6, x_7, x_8, x_9, x_f⟩ := hq.x.ten
                go_wp2
                go_roundw
                case rel => exact ⟨0 + 1, n0, z1, z2, by omega, by go_num, hq.setX 6 _, hz'⟩
                case measure => simp [intOf] <;> omega
              · have hz' : Hid (∀ t : Nat, t ≤ 2 → (⟨0, 0, z0, n1, z2⟩ : Tm).L t = if t < 0 then (⟨f, pk, a0, a1, a2, a3, pu, l0, l1, l2⟩ : Pa).L t + (⟨(↑pk + ↑pu), qk, c0, c1, c2, c3, qu, n0, n1, n2⟩ : Pa).A (1 + pk + t) else if t < 0 + (1 + 1) then (⟨(↑pk + ↑pu), qk, c0, c1, c2, c3, qu, n0, n1, n2⟩ : Pa).L ((t : Int) - ((0 : Nat) : Int)) else 0) := Lib.hid (by
                  obtain ⟨e0, e1, e2⟩ := L3 _ hz.out
                  refine L3mk _ ?_ ?_ ?_ <;> simp [Tm.L, Pa.A, Pa.L] at e0 e1 e2 ⊢ <;> assumption)
                clear hz
                go_wp2
                go_region
                have hq := (hq.setX 8 (.int .u32 n1)).drew
                clear a_0 a_1 a_2 a_3 a_4 a_5 a_6 a_7 a_8 a_9 a_f b_0 b_1 b_2 b_3 b_4 b_5 b_6 b_7 b_8 b_9 b_f r_0 r_1 r_2 r_3 r_4 r_5 r_6 r_7 r_8 r_9 r_f x_0 x_1 x_2 x_3 x_4 x_5 x_6 x_7 x_8 x_9 x_f
                obtain ⟨a_0, a_1, a_2, a_3, a_4, a_5, a_6, a_7, a_8, a_9, a_f⟩ := hq.q.a.ten
                obtain ⟨b_0, b_1, b_2, b_3, b_4, b_5, b_6, b_7, b_8, b_9, b_f⟩ := hq.q.b.ten
                obtain ⟨r_0, r_1, r_2, r_3, r_4, r_5, r_6, r_7, r_8, r_9, r_f⟩ := hq.q.r.ten
                obtain ⟨x_0, x_1, x_2, x_3, x_4, x_5, x_6, x_7, x_8, x_9, x_f⟩ := hq.x.ten
                go_wp2
                go_roundw
                case rel => exact ⟨1 + 1, z0, n1, z2, by omega, by go_num, hq.setX 6 _, hz'⟩
                case measure => simp [intOf] <;> omega
              · have hz' : Hid (∀ t : Nat, t ≤ 2 → (⟨0, 0, z0, z1, n2⟩ : Tm).L t = if t < 0 then (⟨f, pk, a0, a1, a2, a3, pu, l0, l1, l2⟩ : Pa).L t + (⟨(↑pk + ↑pu), qk, c0, c1, c2, c3, qu, n0, n1, n2⟩ : Pa).A (1 + pk + t) else if t < 0 + (2 + 1) then (⟨(↑pk + ↑pu), qk, c0, c1, c2, c3, qu, n0, n1, n2⟩ : Pa).L ((t : Int) - ((0 : Nat) : Int)) else 0) := Lib.hid (by
                  obtain ⟨e0, e1, e2⟩ := L3 _ hz.out
                  refine L3mk _ ?_ ?_ ?_ <;> simp [Tm.L, Pa.A, Pa.L] at e0 e1 e2 ⊢ <;> assumption)
                clear hz
                go_wp2
                go_region
                have hq := (hq.setX 9 (.int .u32 n2)).drew
                clear a_0 a_1 a_2 a_3 a_4 a_5 a_6 a_7 a_8 a_9 a_f b_0 b_1 b_2 b_3 b_4 b_5 b_6 b_7 b_8 b_9 b_f r_0 r_1 r_2 r_3 r_4 r_5 r_6 r_7 r_8 r_9 r_f x_0 x_1 x_2 x_3 x_4 x_5 x_6 x_7 x_8 x_9 x_f
                obtain ⟨a_0, a_1, a_2, a_3, a_4, a_5, a_6, a_7, a_8, a_9, a_f⟩ := hq.q.a.ten
                obtain ⟨b_0, b_1, b_2, b_3, b_4, b_5, b_6, b_7, b_8, b_9, b_f⟩ := hq.q.b.ten
                obtain ⟨r_0, r_1, r_2, r_3, r_4, r_5, r_6, r_7, r_8, r_9, r_f⟩ := hq.q.r.ten
                obtain ⟨x_0, x_1, x_2, x_3, x_4, x_5, x_6, x_7, x_8, x_9, x_f⟩ := hq.x.ten
                go_wp2
                go_roundw
                case rel => exact ⟨2 + 1, z0, z1, n2, by omega, by go_num, hq.setX 6 _, hz'⟩
                case measure => simp [intOf] <;> omega
              · have hz' : Hid (∀ t : Nat, t ≤ 2 → (⟨0, 0, z0, n0, z2⟩ : Tm).L t = if t < 1 then (⟨f, pk, a0, a1, a2, a3, pu, l0, l1, l2⟩ : Pa).L t + (⟨(↑pk + ↑pu), qk, c0, c1, c2, c3, qu, n0, n1, n2⟩ : Pa).A (1 + pk + t) else if t < 1 + (0 + 1) then (⟨(↑pk + ↑pu), qk, c0, c1, c2, c3, qu, n0, n1, n2⟩ : Pa).L ((t : Int) - ((1 : Nat) : Int)) else 0) := Lib.hid (by
                  obtain ⟨e0, e1, e2⟩ := L3 _ hz.out
                  refine L3mk _ ?_ ?_ ?_ <;> simp [Tm.L, Pa.A, Pa.L] at e0 e1 e2 ⊢ <;> assumption)
                clear hz
                go_wp2
                go_region
                have hq := (hq.setX 8 (.int .u32 n0)).drew
                clear a_0 a_1 a_2 a_3 a_4 a_5 a_6 a_7 a_8 a_9 a_f b_0 b_1 b_2 b_3 b_4 b_5 b_6 b_7 b_8 b_9 b_f r_0 r_1 r_2 r_3 r_4 r_5 r_6 r_7 r_8 r_9 r_f x_0 x_1 x_2 x_3 x_4 x_5 x_6 x_7 x_8 x_9 x_f
                obtain ⟨a_0, a_1, a_2, a_3, a_4, a_5, a_6, a_7, a_8, a_9, a_f⟩ := hq.q.a.ten
                obtain ⟨b_0, b_1, b_2, b_3, b_4, b_5, b_6, b_7, b_8, b_9, b_f⟩ := hq.q.b.ten
                obtain ⟨r_0, r_1, r_2, r_3, r_4, r_5, r_6, r_7, r_8, r_9, r_f⟩ := hq.q.r.ten
                obtain ⟨x_0, x_1, x_2, x_3, x_4, x_5, x_6, x_7, x_8, x_9, x_f⟩ := hq.x.ten
                go_wp2
                go_roundw
                case rel => exact ⟨0 + 1, z0, n0, z2, by omega, by go_num, hq.setX 6 _, hz'⟩
                case measure => simp [intOf] <;> omega
              · have hz' : Hid (∀ t : Nat, t ≤ 2 → (⟨0, 0, z0, z1, n1⟩ : Tm).L t = if t < 1 then (⟨f, pk, a0, a1, a2, a3, pu, l0, l1, l2⟩ : Pa).L t + (⟨(↑pk + ↑pu), qk, c0, c1, c2, c3, qu, n0, n1, n2⟩ : Pa).A (1 + pk + t) else if t < 1 + (1 + 1) then (⟨(↑pk + ↑pu), qk, c0, c1, c2, c3, qu, n0, n1, n2⟩ : Pa).L ((t : Int) - ((1 : Nat) : Int)) else 0) := Lib.hid (by
                  obtain ⟨e0, e1, e2⟩ := L3 _ hz.out
                  refine L3mk _ ?_ ?_ ?_ <;> simp [Tm.L, Pa.A, Pa.L] at e0 e1 e2 ⊢ <;> assumption)
                clear hz
                go_wp2
                go_region
                have hq := (hq.setX 9 (.int .u32 n1)).drew
                clear a_0 a_1 a_2 a_3 a_4 a_5 a_6 a_7 a_8 a_9 a_f b_0 b_1 b_2 b_3 b_4 b_5 b_6 b_7 b_8 b_9 b_f r_0 r_1 r_2 r_3 r_4 r_5 r_6 r_7 r_8 r_9 r_f x_0 x_1 x_2 x_3 x_4 x_5 x_6 x_7 x_8 x_9 x_f
                obtain ⟨a_0, a_1, a_2, a_3, a_4, a_5, a_6, a_7, a_8, a_9, a_f⟩ := hq.q.a.ten
                obtain ⟨b_0, b_1, b_2, b_3, b_4, b_5, b_6, b_7, b_8, b_9, b_f⟩ := hq.q.b.ten
                obtain ⟨r_0, r_1, r_2, r_3, r_4, r_5, r_6, r_7, r_8, r_9, r_f⟩ := hq.q.r.ten
                obtain ⟨x_0, x_1, x_2, x_3, x_4, x_5, x_6, x_7, x_8, x_9, x_f⟩ := hq.x.ten
                go_wp2
                go_roundw
                case rel => exact ⟨1 + 1, z0, z1, n1, by omega, by go_num, hq.setX 6 _, hz'⟩
                case measure => simp [intOf] <;> omega
              · have hz' : Hid (∀ t : Nat, t ≤ 2 → (⟨0, 0, z0, z1, n0⟩ : Tm).L t = if t < 2 then (⟨f, pk, a0, a1, a2, a3, pu, l0, l1, l2⟩ : Pa).L t + (⟨(↑pk + ↑pu), qk, c0, c1, c2, c3, qu, n0, n1, n2⟩ : Pa).A (1 + pk + t) else if t < 2 + (0 + 1) then (⟨(↑pk + ↑pu), qk, c0, c1, c2, c3, qu, n0, n1, n2⟩ : Pa).L ((t : Int) - ((2 : Nat) : Int)) else 0) := Lib.hid (by
                  obtain ⟨e0, e1, e2⟩ := L3 _ hz.out
                  refine L3mk _ ?_ ?_ ?_ <;> simp [Tm.L, Pa.A, Pa.L] at e0 e1 e2 ⊢ <;> assumption)
                clear hz
                go_wp2
                go_region
                have hq := (hq.setX 9 (.int .u32 n0)).drew
                clear a_0 a_1 a_2 a_3 a_4 a_5 a_6 a_7 a_8 a_9 a_f b_0 b_1 b_2 b_3 b_4 b_5 b_6 b_7 b_8 b_9 b_f r_0 r_1 r_2 r_3 r_4 r_5 r_6 r_7 r_8 r_9 r_f x_0 x_1 x_2 x_3 x_4 x_5 x_6 x_7 x_8 x_9 x_f
                obtain ⟨a_0, a_1, a_2, a_3, a_4, a_5, a_6, a_7, a_8, a_9, a_f⟩ := hq.q.a.ten
                obtain ⟨b_0, b_1, b_2, b_3, b_4, b_5, b_6, b_7, b_8, b_9, b_f⟩ := hq.q.b.ten
                obtain ⟨r_0, r_1, r_2, r_3, r_4, r_5, r_6, r_7, r_8, r_9, r_f⟩ := hq.q.r.ten
                obtain ⟨x_0, x_1, x_2, x_3, x_4, x_5, x_6, x_7, x_8, x_9, x_f⟩ := hq.x.ten
                go_wp2
                go_roundw
                case rel => exact ⟨0 + 1, z0, z1, n0, by omega, by go_num, hq.setX 6 _, hz'⟩
                case measure => simp [intOf] <;> omega
            · obtain rfl : qu = j := by omega
              clear hlt hj
              have eT : thP ⟨f, pk, a0, a1, a2, a3, pu, l0, l1, l2⟩ ⟨(↑pk + ↑pu), qk, c0, c1, c2, c3, qu, n0, n1, n2⟩ = ⟨f, K, y0, y1, y2, y3, M + qu, z0, z1, z2⟩ := thP_eq (by show (if (pk : Int) ≤ qk then (pk : Int) else qk) = K; have := HK.out; split <;> omega) (by show (if (pk : Int) ≤ qk then (qk : Int) - pk else 0) = M; have := HM.out; split <;> omega) rfl hy.out hz.out
              have eC := chk_thP HG.out HGQ.out rfl
              have hR := HX.out
              unfold thenR at hR
              rw [if_neg (fun h => h HCP.out), if_neg (fun h => h HCQ.out), if_neg (fun h => h HT.out)] at hR
              rw [eT] at eC hR
              rcases ho : paOver ⟨f, K, y0, y1, y2, y3, M + qu, z0, z1, z2⟩ with _ | _
              · rw [ho, if_neg (by decide)] at hR eC
                have E := Lib.hid eC
                injection hR with h1 h2
                subst h1
                subst h2
                clear ho eC eT hz hy
                go_wp2_with (go_at_call 24; (with_reducible refine (rcheck_all f K y0 y1 y2 y3 (M + qu) z0 z1 z2 _ _ E.out).mono ?_); rintro e' w1 ⟨rfl, hb1⟩; replace hq := hq.below hb1; clear hb1; clear a_0 a_1 a_2 a_3 a_4 a_5 a_6 a_7 a_8 a_9 a_f b_0 b_1 b_2 b_3 b_4 b_5 b_6 b_7 b_8 b_9 b_f r_0 r_1 r_2 r_3 r_4 r_5 r_6 r_7 r_8 r_9 r_f x_0 x_1 x_2 x_3 x_4 x_5 x_6 x_7 x_8 x_9 x_f; obtain ⟨a_0, a_1, a_2, a_3, a_4, a_5, a_6, a_7, a_8, a_9, a_f⟩ := hq.q.a.ten; obtain ⟨b_0, b_1, b_2, b_3, b_4, b_5, b_6, b_7, b_8, b_9, b_f⟩ := hq.q.b.ten; obtain ⟨r_0, r_1, r_2, r_3, r_4, r_5, r_6, r_7, r_8, r_9, r_f⟩ := hq.q.r.ten; obtain ⟨x_0, x_1, x_2, x_3, x_4, x_5, x_6, x_7, x_8, x_9, x_f⟩ := hq.x.ten)
                refine bodyPost_ret (v := .tuple #[.agg #[.int .i64 f, .int .i64 K, .int .u32 y0, .int .u32 y1, .int .u32 y2, .int .u32 y3, .int .i64 (M + qu), .int .u32 z0, .int .u32 z1, .int .u32 z2], .int .i64 0]) (by simp [results, Try.results36, go_sem, *]) rfl ⟨rfl, ?_⟩
                exact ((((((((((hq.setR 0 _).setR 1 _).setR 2 _).setR 3 _).setR 4 _).setR 5 _).setR 6 _).setR 7 _).setR 8 _).setR 9 _).q.z
              · rw [ho, if_pos rfl] at hR eC
                have E := Lib.hid eC
                injection hR with h1 h2
                subst h1
                subst h2
                clear ho eC eT hz hy
                go_wp2_with (go_at_call 24; (with_reducible refine (rcheck_all f K y0 y1 y2 y3 (M + qu) z0 z1 z2 _ _ E.out).mono ?_); rintro e' w1 ⟨rfl, hb1⟩; replace hq := hq.below hb1; clear hb1; clear a_0 a_1 a_2 a_3 a_4 a_5 a_6 a_7 a_8 a_9 a_f b_0 b_1 b_2 b_3 b_4 b_5 b_6 b_7 b_8 b_9 b_f r_0 r_1 r_2 r_3 r_4 r_5 r_6 r_7 r_8 r_9 r_f x_0 x_1 x_2 x_3 x_4 x_5 x_6 x_7 x_8 x_9 x_f; obtain ⟨a_0, a_1, a_2, a_3, a_4, a_5, a_6, a_7, a_8, a_9, a_f⟩ := hq.q.a.ten; obtain ⟨b_0, b_1, b_2, b_3, b_4, b_5, b_6, b_7, b_8, b_9, b_f⟩ := hq.q.b.ten; obtain ⟨r_0, r_1, r_2, r_3, r_4, r_5, r_6, r_7, r_8, r_9, r_f⟩ := hq.q.r.ten; obtain ⟨x_0, x_1, x_2, x_3, x_4, x_5, x_6, x_7, x_8, x_9, x_f⟩ := hq.x.ten)
                refine bodyPost_ret (v := .tuple #[.agg #[.int .i64 0, .int .i64 0, .int .u32 0, .int .u32 0, .int .u32 0, .int .u32 0, .int .i64 0, .int .u32 0, .int .u32 0, .int .u32 0], .int .i64 9]) (by simp [results, Try.results36, go_sem, *]) rfl ⟨rfl, ?_⟩
                exact ((((((((((hq.setR 0 _).setR 1 _).setR 2 _).setR 3 _).setR 4 _).setR 5 _).setR 6 _).setR 7 _).setR 8 _).setR 9 _).q.z
theorem rthen_all (f pk a0 a1 a2 a3 pu l0 l1 l2 g qk c0 c1 c2 c3 qu n0 n1 n2 : Int) (w : World) (okp : PaOk ⟨f, pk, a0, a1, a2, a3, pu, l0, l1, l2⟩) (okq : PaOk ⟨g, qk, c0, c1, c2, c3, qu, n0, n1, n2⟩) (x : Pa) (c : Int) (hx : thenR ⟨f, pk, a0, a1, a2, a3, pu, l0, l1, l2⟩ ⟨g, qk, c0, c1, c2, c3, qu, n0, n1, n2⟩ = (x, c)) : Calls Try.prog 36 #[.agg #[.int .i64 f, .int .i64 pk, .int .u32 a0, .int .u32 a1, .int .u32 a2, .int .u32 a3, .int .i64 pu, .int .u32 l0, .int .u32 l1, .int .u32 l2], .agg #[.int .i64 g, .int .i64 qk, .int .u32 c0, .int .u32 c1, .int .u32 c2, .int .u32 c3, .int .i64 qu, .int .u32 n0, .int .u32 n1, .int .u32 n2]] w fun e' w' => e' = .returned (.tuple #[.agg #[.int .i64 x.f, .int .i64 x.k, .int .u32 x.a0, .int .u32 x.a1, .int .u32 x.a2, .int .u32 x.a3, .int .i64 x.u, .int .u32 x.l0, .int .u32 x.l1, .int .u32 x.l2], .int .i64 c]) ∧ Below w.heap.size w w' := by
  have hR := hx
  unfold thenR at hR
  by_cases hp : chk ⟨f, pk, a0, a1, a2, a3, pu, l0, l1, l2⟩ = 0
  · rw [if_neg (fun h => h hp)] at hR
    by_cases hq : chk ⟨g, qk, c0, c1, c2, c3, qu, n0, n1, n2⟩ = 0
    · rw [if_neg (fun h => h hq)] at hR
      by_cases hd : toR ⟨f, pk, a0, a1, a2, a3, pu, l0, l1, l2⟩ = g
      · have g1 := good_iff.1 hp
        have g2 := good_iff.1 hq
        have hg : pk + pu = g := g1.to.symm.trans hd
        obtain ⟨pk, rfl⟩ := Int.eq_ofNat_of_zero_le g1.k0
        obtain ⟨pu, rfl⟩ := Int.eq_ofNat_of_zero_le g1.u0
        obtain ⟨qk, rfl⟩ := Int.eq_ofNat_of_zero_le g2.k0
        obtain ⟨qu, rfl⟩ := Int.eq_ofNat_of_zero_le g2.u0
        subst hg
        exact rthen_d f a0 a1 a2 a3 l0 l1 l2 c0 c1 c2 c3 n0 n1 n2 pk pu qk qu w hp hq okp okq x c hx
      · rw [if_pos hd] at hR
        injection hR with h1 h2
        subst h1
        subst h2
        exact rthen_c f pk a0 a1 a2 a3 pu l0 l1 l2 g qk c0 c1 c2 c3 qu n0 n1 n2 w _ hp hq rfl hd
    · rw [if_pos hq] at hR
      injection hR with h1 h2
      subst h1
      have h0 : c ≠ 0 := by rw [← h2]; exact hq
      exact rthen_b f pk a0 a1 a2 a3 pu l0 l1 l2 g qk c0 c1 c2 c3 qu n0 n1 n2 w c hp h2 h0
  · rw [if_pos hp] at hR
    injection hR with h1 h2
    subst h1
    have h0 : c ≠ 0 := by rw [← h2]; exact hp
    exact rthen_a f pk a0 a1 a2 a3 pu l0 l1 l2 g qk c0 c1 c2 c3 qu n0 n1 n2 w c h2 h0
end Go.Proofs.Ytfmnbkcjibhloaa
