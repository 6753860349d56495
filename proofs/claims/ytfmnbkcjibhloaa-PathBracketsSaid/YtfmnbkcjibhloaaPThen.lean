/- PathThen: one, and then the other. Condition: counts of uint32's range. -/
import Derived.Test.YtfmnbkcjibhloaaWorks
namespace Go.Proofs.Ytfmnbkcjibhloaa
open Go.RowKit
set_option linter.unusedVariables false
set_option linter.unusedSimpArgs false
attribute [local go_sem] eqA4 eqA3 G.upon_value G.upon_skip G.upon_enter G.runAt_run
open G
theorem gdA {p : Pa} (h : PaOk p) {i : Int} (hi : 0 ≤ i) : 0 ≤ p.A i := h.A i
theorem PaOk.L' {p : Pa} (h : PaOk p) (i : Int) : 0 ≤ p.L i := by
  obtain ⟨_, _, _, _, ⟨h0, _⟩, ⟨h1, _⟩, ⟨h2, _⟩⟩ := h
  unfold Pa.L; split <;> (try split) <;> (try split) <;> omega
theorem apL_nn {p : Pa} {t : Tm} (hp : PaOk p) (ht : TmOk t) (i : Int) : 0 ≤ apL p t i := by
  have h1 := ht.L i; have h2 := hp.A (i + 1); have h3 := hp.L' (i - p.k)
  unfold apL; split
  · omega
  · split <;> omega
theorem apply_okt {p : Pa} {t x : Tm} {c : Int} (hp : PaOk p) (ht : TmOk t) (hx : applyR p t = (x, c)) : TmOk x := by
  by_cases h : (applyR p t).2 = 0
  · obtain ⟨_, _, _, ov, e⟩ := apply_inv h
    rw [e] at hx
    injection hx with h1 _
    subst h1
    obtain ⟨o1, o2, o3, o4⟩ := apOver_no ov
    have n0 := apL_nn hp ht 0; have n1 := apL_nn hp ht 1; have n2 := apL_nn hp ht 2
    have e0 := ht.1.1; have a0 := hp.1.1
    refine ⟨⟨?_, ?_⟩, ⟨n0, ?_⟩, ⟨n1, ?_⟩, ⟨n2, ?_⟩⟩
    · show 0 ≤ t.e + p.a0; omega
    · show t.e + p.a0 ≤ _; omega
    · show apL p t 0 ≤ _; omega
    · show apL p t 1 ≤ _; omega
    · show apL p t 2 ≤ _; omega
  · have z : TmOk tm0 := by refine ⟨⟨?_, ?_⟩, ⟨?_, ?_⟩, ⟨?_, ?_⟩, ⟨?_, ?_⟩⟩ <;> decide
    unfold applyR at h hx
    by_cases c1 : chk p ≠ 0
    · rw [if_pos c1] at hx; injection hx with h1 _; exact h1 ▸ z
    · rw [if_neg c1] at hx h
      by_cases c2 : tck t ≠ 0
      · rw [if_pos c2] at hx; injection hx with h1 _; exact h1 ▸ z
      · rw [if_neg c2] at hx h
        by_cases c3 : t.d ≠ p.f
        · rw [if_pos c3] at hx; injection hx with h1 _; exact h1 ▸ z
        · rw [if_neg c3] at hx h
          by_cases c4 : apOver p t = true
          · rw [if_pos c4] at hx; injection hx with h1 _; exact h1 ▸ z
          · rw [if_neg c4] at h; exact absurd rfl h
theorem thA_nn {p q : Pa} (hp : PaOk p) (hq : PaOk q) (i : Int) : 0 ≤ thA p q i := by
  have h1 := hp.A i; have h2 := hq.A i
  unfold thA; split <;> omega
theorem thL_nn {p q : Pa} (hp : PaOk p) (hq : PaOk q) (i : Int) : 0 ≤ thL p q i := by
  have h1 := hp.L' i; have h2 := hq.A (1 + p.k + i); have h3 := hq.L' (i - thM p q)
  unfold thL; split
  · omega
  · split <;> omega
theorem then_okp {p q x : Pa} {c : Int} (hp : PaOk p) (hq : PaOk q) (hx : thenR p q = (x, c)) : PaOk x := by
  by_cases h : (thenR p q).2 = 0
  · obtain ⟨_, _, _, ov, e⟩ := then_inv h
    rw [e] at hx
    injection hx with h1 _
    subst h1
    obtain ⟨o0, o1, o2, o3, o4, o5, o6⟩ := paOver_no ov
    exact ⟨⟨thA_nn hp hq 0, Int.le_trans o0 (by decide)⟩, ⟨thA_nn hp hq 1, Int.le_trans o1 (by decide)⟩, ⟨thA_nn hp hq 2, Int.le_trans o2 (by decide)⟩, ⟨thA_nn hp hq 3, Int.le_trans o3 (by decide)⟩, ⟨thL_nn hp hq 0, Int.le_trans o4 (by decide)⟩, ⟨thL_nn hp hq 1, Int.le_trans o5 (by decide)⟩, ⟨thL_nn hp hq 2, Int.le_trans o6 (by decide)⟩⟩
  · have z : PaOk pa0 := by refine ⟨⟨?_, ?_⟩, ⟨?_, ?_⟩, ⟨?_, ?_⟩, ⟨?_, ?_⟩, ⟨?_, ?_⟩, ⟨?_, ?_⟩, ⟨?_, ?_⟩⟩ <;> decide
    unfold thenR at h hx
    by_cases c1 : chk p ≠ 0
    · rw [if_pos c1] at hx; injection hx with h1 _; exact h1 ▸ z
    · rw [if_neg c1] at hx h
      by_cases c2 : chk q ≠ 0
      · rw [if_pos c2] at hx; injection hx with h1 _; exact h1 ▸ z
      · rw [if_neg c2] at hx h
        by_cases c3 : toR p ≠ q.f
        · rw [if_pos c3] at hx; injection hx with h1 _; exact h1 ▸ z
        · rw [if_neg c3] at hx h
          by_cases c4 : paOver (thP p q) = true
          · rw [if_pos c4] at hx; injection hx with h1 _; exact h1 ▸ z
          · rw [if_neg c4] at h; exact absurd rfl h
set_option maxRecDepth 100000 in
set_option maxHeartbeats 16000000 in
theorem pthen_any (p : Pa) (q : Pa) (t : Tm) (w : World) (okp : PaOk p) (okq : PaOk q) (okt : TmOk t) : Calls Try.prog 6 #[.agg #[.int .i64 p.f, .int .i64 p.k, .int .u32 p.a0, .int .u32 p.a1, .int .u32 p.a2, .int .u32 p.a3, .int .i64 p.u, .int .u32 p.l0, .int .u32 p.l1, .int .u32 p.l2], .agg #[.int .i64 q.f, .int .i64 q.k, .int .u32 q.a0, .int .u32 q.a1, .int .u32 q.a2, .int .u32 q.a3, .int .i64 q.u, .int .u32 q.l0, .int .u32 q.l1, .int .u32 q.l2], .agg #[.int .u32 t.e, .int .i64 t.d, .int .u32 t.l0, .int .u32 t.l1, .int .u32 t.l2]] w fun e' w' => e' = .returned (.bool true) ∧ Below w.heap.size w w' := by
  obtain ⟨⟨y, d⟩, h_⟩ : ∃ xc, thenR p q = xc := ⟨_, rfl⟩
  have HY := Lib.hid h_
  clear h_
  obtain ⟨⟨x, c⟩, h_⟩ : ∃ xc, applyR p t = xc := ⟨_, rfl⟩
  have HX := Lib.hid h_
  clear h_
  obtain ⟨⟨z1, g⟩, h_⟩ : ∃ xc, applyR y t = xc := ⟨_, rfl⟩
  have HZZ := Lib.hid h_
  clear h_
  obtain ⟨⟨v, k⟩, h_⟩ : ∃ xc, applyR q x = xc := ⟨_, rfl⟩
  have HV := Lib.hid h_
  clear h_
  obtain ⟨ct, h_⟩ : ∃ ct, tck t = ct := ⟨_, rfl⟩
  have HT := Lib.hid h_
  clear h_
  have OP := Lib.hid okp
  have OQ := Lib.hid okq
  have OT := Lib.hid okt
  have OY := Lib.hid (then_okp okp okq HY.out)
  have OX := Lib.hid (apply_okt okp okt HX.out)
  clear okp okq okt
  go_enter Try.func6, Try.ntmps6
  go_upto_region 1 with (fail)
  have hp : Row (((w.alloc (.cells #[.int .i64 p.f, .int .i64 p.k, .int .u32 p.a0, .int .u32 p.a1, .int .u32 p.a2, .int .u32 p.a3, .int .i64 p.u, .int .u32 p.l0, .int .u32 p.l1, .int .u32 p.l2] 30)).alloc (.cells #[.int .i64 q.f, .int .i64 q.k, .int .u32 q.a0, .int .u32 q.a1, .int .u32 q.a2, .int .u32 q.a3, .int .i64 q.u, .int .u32 q.l0, .int .u32 q.l1, .int .u32 q.l2] 30)).alloc (.cells #[.int .u32 t.e, .int .i64 t.d, .int .u32 t.l0, .int .u32 t.l1, .int .u32 t.l2] 49)) (w.heap.size) #[.int .i64 p.f, .int .i64 p.k, .int .u32 p.a0, .int .u32 p.a1, .int .u32 p.a2, .int .u32 p.a3, .int .i64 p.u, .int .u32 p.l0, .int .u32 p.l1, .int .u32 p.l2] 30 := by simpa using ((Row.new w #[.int .i64 p.f, .int .i64 p.k, .int .u32 p.a0, .int .u32 p.a1, .int .u32 p.a2, .int .u32 p.a3, .int .i64 p.u, .int .u32 p.l0, .int .u32 p.l1, .int .u32 p.l2] 30).alloc (.cells #[.int .i64 q.f, .int .i64 q.k, .int .u32 q.a0, .int .u32 q.a1, .int .u32 q.a2, .int .u32 q.a3, .int .i64 q.u, .int .u32 q.l0, .int .u32 q.l1, .int .u32 q.l2] 30)).alloc (.cells #[.int .u32 t.e, .int .i64 t.d, .int .u32 t.l0, .int .u32 t.l1, .int .u32 t.l2] 49)
  have hq : Row (((w.alloc (.cells #[.int .i64 p.f, .int .i64 p.k, .int .u32 p.a0, .int .u32 p.a1, .int .u32 p.a2, .int .u32 p.a3, .int .i64 p.u, .int .u32 p.l0, .int .u32 p.l1, .int .u32 p.l2] 30)).alloc (.cells #[.int .i64 q.f, .int .i64 q.k, .int .u32 q.a0, .int .u32 q.a1, .int .u32 q.a2, .int .u32 q.a3, .int .i64 q.u, .int .u32 q.l0, .int .u32 q.l1, .int .u32 q.l2] 30)).alloc (.cells #[.int .u32 t.e, .int .i64 t.d, .int .u32 t.l0, .int .u32 t.l1, .int .u32 t.l2] 49)) (w.heap.size + 1) #[.int .i64 q.f, .int .i64 q.k, .int .u32 q.a0, .int .u32 q.a1, .int .u32 q.a2, .int .u32 q.a3, .int .i64 q.u, .int .u32 q.l0, .int .u32 q.l1, .int .u32 q.l2] 30 := by simpa using (Row.new (w.alloc (.cells #[.int .i64 p.f, .int .i64 p.k, .int .u32 p.a0, .int .u32 p.a1, .int .u32 p.a2, .int .u32 p.a3, .int .i64 p.u, .int .u32 p.l0, .int .u32 p.l1, .int .u32 p.l2] 30)) #[.int .i64 q.f, .int .i64 q.k, .int .u32 q.a0, .int .u32 q.a1, .int .u32 q.a2, .int .u32 q.a3, .int .i64 q.u, .int .u32 q.l0, .int .u32 q.l1, .int .u32 q.l2] 30).alloc (.cells #[.int .u32 t.e, .int .i64 t.d, .int .u32 t.l0, .int .u32 t.l1, .int .u32 t.l2] 49)
  have ht : Row (((w.alloc (.cells #[.int .i64 p.f, .int .i64 p.k, .int .u32 p.a0, .int .u32 p.a1, .int .u32 p.a2, .int .u32 p.a3, .int .i64 p.u, .int .u32 p.l0, .int .u32 p.l1, .int .u32 p.l2] 30)).alloc (.cells #[.int .i64 q.f, .int .i64 q.k, .int .u32 q.a0, .int .u32 q.a1, .int .u32 q.a2, .int .u32 q.a3, .int .i64 q.u, .int .u32 q.l0, .int .u32 q.l1, .int .u32 q.l2] 30)).alloc (.cells #[.int .u32 t.e, .int .i64 t.d, .int .u32 t.l0, .int .u32 t.l1, .int .u32 t.l2] 49)) (w.heap.size + 1 + 1) #[.int .u32 t.e, .int .i64 t.d, .int .u32 t.l0, .int .u32 t.l1, .int .u32 t.l2] 49 := by simpa using Row.new ((w.alloc (.cells #[.int .i64 p.f, .int .i64 p.k, .int .u32 p.a0, .int .u32 p.a1, .int .u32 p.a2, .int .u32 p.a3, .int .i64 p.u, .int .u32 p.l0, .int .u32 p.l1, .int .u32 p.l2] 30)).alloc (.cells #[.int .i64 q.f, .int .i64 q.k, .int .u32 q.a0, .int .u32 q.a1, .int .u32 q.a2, .int .u32 q.a3, .int .i64 q.u, .int .u32 q.l0, .int .u32 q.l1, .int .u32 q.l2] 30)) #[.int .u32 t.e, .int .i64 t.d, .int .u32 t.l0, .int .u32 t.l1, .int .u32 t.l2] 49
  have hz : Below w.heap.size w (((w.alloc (.cells #[.int .i64 p.f, .int .i64 p.k, .int .u32 p.a0, .int .u32 p.a1, .int .u32 p.a2, .int .u32 p.a3, .int .i64 p.u, .int .u32 p.l0, .int .u32 p.l1, .int .u32 p.l2] 30)).alloc (.cells #[.int .i64 q.f, .int .i64 q.k, .int .u32 q.a0, .int .u32 q.a1, .int .u32 q.a2, .int .u32 q.a3, .int .i64 q.u, .int .u32 q.l0, .int .u32 q.l1, .int .u32 q.l2] 30)).alloc (.cells #[.int .u32 t.e, .int .i64 t.d, .int .u32 t.l0, .int .u32 t.l1, .int .u32 t.l2] 49)) := below_of (below_of (below_new _ _) (below_new _ _)) (below_new _ _)
  have HZ := Lib.hid hz
  clear hz
  generalize (((w.alloc (.cells #[.int .i64 p.f, .int .i64 p.k, .int .u32 p.a0, .int .u32 p.a1, .int .u32 p.a2, .int .u32 p.a3, .int .i64 p.u, .int .u32 p.l0, .int .u32 p.l1, .int .u32 p.l2] 30)).alloc (.cells #[.int .i64 q.f, .int .i64 q.k, .int .u32 q.a0, .int .u32 q.a1, .int .u32 q.a2, .int .u32 q.a3, .int .i64 q.u, .int .u32 q.l0, .int .u32 q.l1, .int .u32 q.l2] 30)).alloc (.cells #[.int .u32 t.e, .int .i64 t.d, .int .u32 t.l0, .int .u32 t.l1, .int .u32 t.l2] 49)) = wc at hp hq ht HZ ⊢
  generalize w.heap.size = Bp at hp hq ht ⊢
  generalize Bp + 1 = Bq at hq ht ⊢
  generalize Bq + 1 = Bt at ht ⊢
  have hz := HZ.out
  clear HZ
  go_upto_region 3 with (go_at_call 37; (with_reducible refine (works_any _).mono ?_); rintro e' w1 ⟨rfl, hb1⟩; replace hp := hp.below hb1; replace hq := hq.below hb1; replace ht := ht.below hb1; replace hz := below_of hz hb1; clear hb1)
  clear wc
  obtain ⟨wc, rfl⟩ : ∃ wc, wc = w1 := ⟨_, rfl⟩
  have Hhp := Lib.hid hp
  have Hhq := Lib.hid hq
  have Hht := Lib.hid ht
  clear hp hq ht
  refine region_gen (AC wc 8 9 #[.int .i64 0, .int .i64 0, .int .u32 0, .int .u32 0, .int .u32 0, .int .u32 0, .int .i64 0, .int .u32 0, .int .u32 0, .int .u32 0] #[.int .i64 y.f, .int .i64 y.k, .int .u32 y.a0, .int .u32 y.a1, .int .u32 y.a2, .int .u32 y.a3, .int .i64 y.u, .int .u32 y.l0, .int .u32 y.l1, .int .u32 y.l2] 26) (by kernel_rfl) (by kernel_rfl) (AC.start _ _ _ _ _ _) ?_
  repeat
    (refine step_gen (by decide) (by rfl) (fun K hK => ?_)
     go_simp
     first
       | (with_reducible apply H1.one
          · intro σ wv hk hd hv
            have Hv := Lib.hid hv
            have qp := Hhp.out.below hv.b
            obtain ⟨p_0, p_1, p_2, p_3, p_4, p_5, p_6, p_7, p_8, p_9, p_f⟩ := qp.ten
            clear qp
            have qq := Hhq.out.below hv.b
            obtain ⟨q_0, q_1, q_2, q_3, q_4, q_5, q_6, q_7, q_8, q_9, q_f⟩ := qq.ten
            clear qq
            try (have z_ := (hv.row (hd.get 8 (List.mem_cons_self ..) (by kernel_rfl)) hk).2; obtain ⟨x_0, x_1, x_2, x_3, x_4, x_5, x_6, x_7, x_8, x_9, x_f⟩ := z_.ten; clear z_)
            clear hv
            go_simp
            (first
              | (go_at_call 23; (with_reducible refine (law_to p _).mono ?_); rintro e' w1 ⟨rfl, hb1⟩; exact ⟨_, rfl, rfl, Hv.out.call hb1 (by decide) (by decide)⟩)
              | (go_at_call 23; (with_reducible refine (law_to q _).mono ?_); rintro e' w1 ⟨rfl, hb1⟩; exact ⟨_, rfl, rfl, Hv.out.call hb1 (by decide) (by decide)⟩)
              | (go_at_call 35; (with_reducible refine (then_any p q _ OP.out OQ.out _ _ HY.out).mono ?_); rintro e' w1 ⟨rfl, hb1⟩; exact ⟨_, rfl, rfl, Hv.out.call hb1 (by decide) (by decide)⟩)
              | (with_reducible refine ⟨rfl, ?_⟩; first | (with_reducible exact AC.pure Hv.out (by decide) (by decide)) | (with_reducible exact AC.store10 Hv.out (hd.get 8 (List.mem_cons_self ..) (by kernel_rfl)) hk (by decide))))
          refine hK _ _ _ ?_
          clear hK K)
       | (with_reducible refine H1.any IsPtr ⟨_, IsPtr.mk 0⟩ ?_ ?_
          · intro σ wv hk hd hv
            have Hv := Lib.hid hv
            go_simp
            exact ⟨IsPtr.mk _, Hv.out.alloc hk (by decide)⟩
          intro v_ hv_
          obtain ⟨X, rfl⟩ := hv_
          refine hK _ _ _ ?_
          clear hK K)
       | (with_reducible apply Sk.of
          · (intro σ wv hk hv; exact hv.pure (by decide) (by decide))
          refine hK _ _ _ ?_
          clear hK K))
  refine nil_gen ?_
  intro σ wn hσ hT hq
  obtain ⟨hbn, hy⟩ := hq.done hσ (by decide) (hT _ (List.mem_cons_self ..))
  clear hσ hT hq
  have hp := Hhp.out.below hbn
  have hq := Hhq.out.below hbn
  have ht := Hht.out.below hbn
  replace hz := below_of hz hbn
  clear Hhp Hhq Hht hbn wc
  obtain ⟨wc, rfl⟩ : ∃ wc, wc = wn := ⟨_, rfl⟩
  by_cases hd : d = 0
  · subst hd
    by_cases hct : ct = 0
    · subst hct
      obtain ⟨t_0, t_1, t_2, t_3, t_4, t_f⟩ := ht.atTm
      go_upto_region 6 with (first | (go_at_call 38; (with_reducible refine (trcheck_all t.e t.d t.l0 t.l1 t.l2 _ _ HT.out).mono ?_); rintro e' w1 ⟨rfl, hb1⟩; replace hp := hp.below hb1; replace hq := hq.below hb1; replace ht := ht.below hb1; replace hy := hy.below hb1; replace hz := below_of hz hb1; clear hb1; clear t_0 t_1 t_2 t_3 t_4 t_f; obtain ⟨t_0, t_1, t_2, t_3, t_4, t_f⟩ := ht.atTm))
      clear t_0 t_1 t_2 t_3 t_4 t_f
      obtain ⟨wc, rfl⟩ : ∃ wc, wc = w1 := ⟨_, rfl⟩
      have Hhp := Lib.hid hp
      have Hhq := Lib.hid hq
      have Hht := Lib.hid ht
      have Hhy := Lib.hid hy
      clear hp hq ht hy
      refine region_gen (AC wc 7 8 #[.int .u32 0, .int .i64 0, .int .u32 0, .int .u32 0, .int .u32 0] #[.int .u32 x.e, .int .i64 x.d, .int .u32 x.l0, .int .u32 x.l1, .int .u32 x.l2] 49) (by kernel_rfl) (by kernel_rfl) (AC.start _ _ _ _ _ _) ?_
      repeat
        (refine step_gen (by decide) (by rfl) (fun K hK => ?_)
         go_simp
         first
           | (with_reducible apply H1.one
              · intro σ wv hk hd hv
                have Hv := Lib.hid hv
                have qp := Hhp.out.below hv.b
                obtain ⟨p_0, p_1, p_2, p_3, p_4, p_5, p_6, p_7, p_8, p_9, p_f⟩ := qp.ten
                clear qp
                have qt := Hht.out.below hv.b
                obtain ⟨t_0, t_1, t_2, t_3, t_4, t_f⟩ := qt.atTm
                clear qt
                try (have z_ := (hv.row (hd.get 7 (List.mem_cons_self ..) (by kernel_rfl)) hk).2; obtain ⟨x_0, x_1, x_2, x_3, x_4, x_f⟩ := z_.atTm; clear z_)
                clear hv
                go_simp
                (first
                  | (go_at_call 23; (with_reducible refine (law_to p _).mono ?_); rintro e' w1 ⟨rfl, hb1⟩; exact ⟨_, rfl, rfl, Hv.out.call hb1 (by decide) (by decide)⟩)
                  | (go_at_call 33; (with_reducible refine (apply_any p t _ OP.out OT.out _ _ HX.out).mono ?_); rintro e' w1 ⟨rfl, hb1⟩; exact ⟨_, rfl, rfl, Hv.out.call hb1 (by decide) (by decide)⟩)
                  | (with_reducible refine ⟨rfl, ?_⟩; first | (with_reducible exact AC.pure Hv.out (by decide) (by decide)) | (with_reducible exact AC.store5 Hv.out (hd.get 7 (List.mem_cons_self ..) (by kernel_rfl)) hk (by decide))))
              refine hK _ _ _ ?_
              clear hK K)
           | (with_reducible refine H1.any IsPtr ⟨_, IsPtr.mk 0⟩ ?_ ?_
              · intro σ wv hk hd hv
                have Hv := Lib.hid hv
                go_simp
                exact ⟨IsPtr.mk _, Hv.out.alloc hk (by decide)⟩
              intro v_ hv_
              obtain ⟨X, rfl⟩ := hv_
              refine hK _ _ _ ?_
              clear hK K)
           | (with_reducible apply Sk.of
              · (intro σ wv hk hv; exact hv.pure (by decide) (by decide))
              refine hK _ _ _ ?_
              clear hK K))
      refine nil_gen ?_
      intro σ wn hσ hT hq
      obtain ⟨hbn, hx⟩ := hq.done hσ (by decide) (hT _ (List.mem_cons_self ..))
      clear hσ hT hq
      have hp := Hhp.out.below hbn
      have hq := Hhq.out.below hbn
      have ht := Hht.out.below hbn
      have hy := Hhy.out.below hbn
      replace hz := below_of hz hbn
      clear Hhp Hhq Hht Hhy hbn wc
      obtain ⟨wc, rfl⟩ : ∃ wc, wc = wn := ⟨_, rfl⟩
      go_upto_region 7 with (fail)
      obtain ⟨t_0, t_1, t_2, t_3, t_4, t_f⟩ := ht.atTm
      obtain ⟨y_0, y_1, y_2, y_3, y_4, y_5, y_6, y_7, y_8, y_9, y_f⟩ := hy.ten
      go_upto_region 8 with (go_at_call 33; (with_reducible refine (apply_any y t _ OY.out OT.out _ _ HZZ.out).mono ?_); rintro e' w1 ⟨rfl, hb1⟩; replace hp := hp.below hb1; replace hq := hq.below hb1; replace ht := ht.below hb1; replace hy := hy.below hb1; replace hx := hx.below hb1; replace hz := below_of hz hb1; clear hb1; clear t_0 t_1 t_2 t_3 t_4 t_f y_0 y_1 y_2 y_3 y_4 y_5 y_6 y_7 y_8 y_9 y_f)
      have hz1 := Row.new w1 #[.int .u32 z1.e, .int .i64 z1.d, .int .u32 z1.l0, .int .u32 z1.l1, .int .u32 z1.l2] 49
      replace hp := hp.alloc (.cells #[.int .u32 z1.e, .int .i64 z1.d, .int .u32 z1.l0, .int .u32 z1.l1, .int .u32 z1.l2] 49)
      replace hq := hq.alloc (.cells #[.int .u32 z1.e, .int .i64 z1.d, .int .u32 z1.l0, .int .u32 z1.l1, .int .u32 z1.l2] 49)
      replace ht := ht.alloc (.cells #[.int .u32 z1.e, .int .i64 z1.d, .int .u32 z1.l0, .int .u32 z1.l1, .int .u32 z1.l2] 49)
      replace hy := hy.alloc (.cells #[.int .u32 z1.e, .int .i64 z1.d, .int .u32 z1.l0, .int .u32 z1.l1, .int .u32 z1.l2] 49)
      replace hx := hx.alloc (.cells #[.int .u32 z1.e, .int .i64 z1.d, .int .u32 z1.l0, .int .u32 z1.l1, .int .u32 z1.l2] 49)
      replace hz := below_of hz (below_new w1 (.cells #[.int .u32 z1.e, .int .i64 z1.d, .int .u32 z1.l0, .int .u32 z1.l1, .int .u32 z1.l2] 49))
      generalize w1.heap.size = Xz1 at hz1 ⊢
      generalize w1.alloc (.cells #[.int .u32 z1.e, .int .i64 z1.d, .int .u32 z1.l0, .int .u32 z1.l1, .int .u32 z1.l2] 49) = wd at hz1 hp hq ht hy hx hz ⊢
      try clear wc
      obtain ⟨wc, rfl⟩ : ∃ wc, wc = wd := ⟨_, rfl⟩
      by_cases hc : c = 0
      · subst hc
        have hl := then_law p q t (by rw [HY.out]) (by rw [HT.out]) (by rw [HX.out])
        rw [HX.out, HY.out, HZZ.out, HV.out] at hl
        replace hl := hl.symm
        injection hl with hl1 hl2
        subst hl1
        subst hl2
        go_upto_region 10 with (fail)
        have Hhp := Lib.hid hp
        have Hhq := Lib.hid hq
        have Hht := Lib.hid ht
        have Hhy := Lib.hid hy
        have Hhx := Lib.hid hx
        have Hhz1 := Lib.hid hz1
        clear hp hq ht hy hx hz1
        refine region_gen (AC wc 7 8 #[.int .u32 0, .int .i64 0, .int .u32 0, .int .u32 0, .int .u32 0] #[.int .u32 v.e, .int .i64 v.d, .int .u32 v.l0, .int .u32 v.l1, .int .u32 v.l2] 49) (by kernel_rfl) (by kernel_rfl) (AC.start _ _ _ _ _ _) ?_
        repeat
          (refine step_gen (by decide) (by rfl) (fun K hK => ?_)
           go_simp
           first
             | (with_reducible apply H1.one
                · intro σ wv hk hd hv
                  have Hv := Lib.hid hv
                  have qq := Hhq.out.below hv.b
                  obtain ⟨q_0, q_1, q_2, q_3, q_4, q_5, q_6, q_7, q_8, q_9, q_f⟩ := qq.ten
                  clear qq
                  have qx := Hhx.out.below hv.b
                  obtain ⟨x_0, x_1, x_2, x_3, x_4, x_f⟩ := qx.atTm
                  clear qx
                  try (have z_ := (hv.row (hd.get 7 (List.mem_cons_self ..) (by kernel_rfl)) hk).2; obtain ⟨x_0, x_1, x_2, x_3, x_4, x_f⟩ := z_.atTm; clear z_)
                  clear hv
                  go_simp
                  (first
                    | (go_at_call 23; (with_reducible refine (law_to q _).mono ?_); rintro e' w1 ⟨rfl, hb1⟩; exact ⟨_, rfl, rfl, Hv.out.call hb1 (by decide) (by decide)⟩)
                    | (go_at_call 33; (with_reducible refine (apply_any q x _ OQ.out OX.out _ _ HV.out).mono ?_); rintro e' w1 ⟨rfl, hb1⟩; exact ⟨_, rfl, rfl, Hv.out.call hb1 (by decide) (by decide)⟩)
                    | (with_reducible refine ⟨rfl, ?_⟩; first | (with_reducible exact AC.pure Hv.out (by decide) (by decide)) | (with_reducible exact AC.store5 Hv.out (hd.get 7 (List.mem_cons_self ..) (by kernel_rfl)) hk (by decide))))
                refine hK _ _ _ ?_
                clear hK K)
             | (with_reducible refine H1.any IsPtr ⟨_, IsPtr.mk 0⟩ ?_ ?_
                · intro σ wv hk hd hv
                  have Hv := Lib.hid hv
                  go_simp
                  exact ⟨IsPtr.mk _, Hv.out.alloc hk (by decide)⟩
                intro v_ hv_
                obtain ⟨X, rfl⟩ := hv_
                refine hK _ _ _ ?_
                clear hK K)
             | (with_reducible apply Sk.of
                · (intro σ wv hk hv; exact hv.pure (by decide) (by decide))
                refine hK _ _ _ ?_
                clear hK K))
        refine nil_gen ?_
        intro σ wn hσ hT hq
        obtain ⟨hbn, hv⟩ := hq.done hσ (by decide) (hT _ (List.mem_cons_self ..))
        clear hσ hT hq
        have hp := Hhp.out.below hbn
        have hq := Hhq.out.below hbn
        have ht := Hht.out.below hbn
        have hy := Hhy.out.below hbn
        have hx := Hhx.out.below hbn
        have hz1 := Hhz1.out.below hbn
        replace hz := below_of hz hbn
        clear Hhp Hhq Hht Hhy Hhx Hhz1 hbn wc
        obtain ⟨wc, rfl⟩ : ∃ wc, wc = wn := ⟨_, rfl⟩
        obtain ⟨z1_0, z1_1, z1_2, z1_3, z1_4, z1_f⟩ := hz1.atTm
        obtain ⟨v_0, v_1, v_2, v_3, v_4, v_f⟩ := hv.atTm
        go_wp2
        go_ret
        exact ⟨rfl, hz⟩
      · have hl := then_law' p q t (by rw [HY.out]) (by rw [HT.out]) (by rw [HX.out]; exact hc)
        rw [HX.out, HY.out, HZZ.out] at hl
        have HL := Lib.hid hl
        clear hl
        have hcb : (c != 0) = true := by simp [hc]
        by_cases h9 : c = 9
        · subst h9
          clear hc
          go_wp2
          go_ret
          exact ⟨rfl, hz⟩
        · obtain ⟨h10, h11⟩ := HL.out.resolve_left h9
          simp only at h10 h11
          subst h10
          subst h11
          clear hc h9 hcb
          go_wp2
          go_ret
          exact ⟨rfl, hz⟩
    · have hctb : (ct != 0) = true := by simp [hct]
      clear hct
      obtain ⟨t_0, t_1, t_2, t_3, t_4, t_f⟩ := ht.atTm
      go_wp2_with (first | (go_at_call 38; (with_reducible refine (trcheck_all t.e t.d t.l0 t.l1 t.l2 _ _ HT.out).mono ?_); rintro e' w1 ⟨rfl, hb1⟩; replace hp := hp.below hb1; replace hq := hq.below hb1; replace ht := ht.below hb1; replace hy := hy.below hb1; replace hz := below_of hz hb1; clear hb1; clear t_0 t_1 t_2 t_3 t_4 t_f; obtain ⟨t_0, t_1, t_2, t_3, t_4, t_f⟩ := ht.atTm))
      go_ret
      exact ⟨rfl, hz⟩
  · have hdb : (d != 0) = true := by simp [hd]
    clear hd
    go_wp2
    go_ret
    exact ⟨rfl, hz⟩
end Go.Proofs.Ytfmnbkcjibhloaa
