/- PathBefore: never behind. Condition: counts of uint32's range. -/
import Derived.Test.YtfmnbkcjibhloaaWorks
namespace Go.Proofs.Ytfmnbkcjibhloaa
open Go.RowKit
set_option linter.unusedVariables false
set_option linter.unusedSimpArgs false
attribute [local go_sem] eqA4 eqA3 G.upon_value G.upon_skip G.upon_enter G.runAt_run
open G
set_option maxRecDepth 100000 in
set_option maxHeartbeats 16000000 in
theorem pbefore_any (p : Pa) (q : Pa) (t : Tm) (w : World) (okp : PaOk p) (okq : PaOk q) (okt : TmOk t) : Calls Try.prog 8 #[.agg #[.int .i64 p.f, .int .i64 p.k, .int .u32 p.a0, .int .u32 p.a1, .int .u32 p.a2, .int .u32 p.a3, .int .i64 p.u, .int .u32 p.l0, .int .u32 p.l1, .int .u32 p.l2], .agg #[.int .i64 q.f, .int .i64 q.k, .int .u32 q.a0, .int .u32 q.a1, .int .u32 q.a2, .int .u32 q.a3, .int .i64 q.u, .int .u32 q.l0, .int .u32 q.l1, .int .u32 q.l2], .agg #[.int .u32 t.e, .int .i64 t.d, .int .u32 t.l0, .int .u32 t.l1, .int .u32 t.l2]] w fun e' w' => e' = .returned (.bool true) ∧ Below w.heap.size w w' := by
  obtain ⟨⟨x, c⟩, h_⟩ : ∃ xc, applyR p t = xc := ⟨_, rfl⟩
  have HX := Lib.hid h_
  clear h_
  obtain ⟨⟨y, d⟩, h_⟩ : ∃ xc, applyR q t = xc := ⟨_, rfl⟩
  have HY := Lib.hid h_
  clear h_
  obtain ⟨r, h_⟩ : ∃ r, leR p q = r := ⟨_, rfl⟩
  have HL := Lib.hid h_
  clear h_
  have OP := Lib.hid okp
  have OQ := Lib.hid okq
  have OT := Lib.hid okt
  clear okp okq okt
  go_enter Try.func8, Try.ntmps8
  go_upto_region 1 with (fail)
  have hp : Row (((w.alloc (.cells #[.int .i64 p.f, .int .i64 p.k, .int .u32 p.a0, .int .u32 p.a1, .int .u32 p.a2, .int .u32 p.a3, .int .i64 p.u, .int .u32 p.l0, .int .u32 p.l1, .int .u32 p.l2] 30)).alloc (.cells #[.int .i64 q.f, .int .i64 q.k, .int .u32 q.a0, .int .u32 q.a1, .int .u32 q.a2, .int .u32 q.a3, .int .i64 q.u, .int .u32 q.l0, .int .u32 q.l1, .int .u32 q.l2] 30)).alloc (.cells #[.int .u32 t.e, .int .i64 t.d, .int .u32 t.l0, .int .u32 t.l1, .int .u32 t.l2] 49)) (w.heap.size) #[.int .i64 p.f, .int .i64 p.k, .int .u32 p.a0, .int .u32 p.a1, .int .u32 p.a2, .int .u32 p.a3, .int .i64 p.u, .int .u32 p.l0, .int .u32 p.l1, .int .u32 p.l2] 30 := by simpa using ((Row.new w #[.int .i64 p.f, .int .i64 p.k, .int .u32 p.a0, .int .u32 p.a1, .int .u32 p.a2, .int .u32 p.a3, .int .i64 p.u, .int .u32 p.l0, .int .u32 p.l1, .int .u32 p.l2] 30).alloc (.cells #[.int .i64 q.f, .int .i64 q.k, .int .u32 q.a0, .int .u32 q.a1, .int .u32 q.a2, .int .u32 q.a3, .int .i64 q.u, .int .u32 q.l0, .int .u32 q.l1, .int .u32 q.l2] 30)).alloc (.cells #[.int .u32 t.e, .int .i64 t.d, .int .u32 t.l0, .int .u32 t.l1, .int .u32 t.l2] 49)
  have hq : Row (((w.alloc (.cells #[.int .i64 p.f, .int .i64 p.k, .int .u32 p.a0, .int .u32 p.a1, .int .u32 p.a2, .int .u32 p.a3, .int .i64 p.u, .int .u32 p.l0, .int .u32 p.l1, .int .u32 p.l2] 30)).alloc (.cells #[.int .i64 q.f, .int .i64 q.k, .int .u32 q.a0, .int .u32 q.a1, .int .u32 q.a2, .int .u32 q.a3, .int .i64 q.u, .int .u32 q.l0, .int .u32 q.l1, .int .u32 q.l2] 30)).alloc (.cells #[.int .u32 t.e, .int .i64 t.d, .int .u32 t.l0, .int .u32 t.l1, .int .u32 t.l2] 49)) (w.heap.size + 1) #[.int .i64 q.f, .int .i64 q.k, .int .u32 q.a0, .int .u32 q.a1, .int .u32 q.a2, .int .u32 q.a3, .int .i64 q.u, .int .u32 q.l0, .int .u32 q.l1, .int .u32 q.l2] 30 := by simpa using (Row.new (w.alloc (.cells #[.int .i64 p.f, .int .i64 p.k, .int .u32 p.a0, .int .u32 p.a1, .int .u32 p.a2, .int .u32 p.a3, .int .i64 p.u, .int .u32 p.l0, .int .u32 p.l1, .int .u32 p.l2] 30)) #[.int .i64 q.f, .int .i64 q.k, .int .u32 q.a0, .int .u32 q.a1, .int .u32 q.a2, .int .u32 q.a3, .int .i64 q.u, .int .u32 q.l0, .int .u32 q.l1, .int .u32 q.l2] 30).alloc (.cells #[.int .u32 t.e, .int .i64 t.d, .int .u32 t.l0, .int .u32 t.l1, .int .u32 t.l2] 49)
  have ht : Row (((w.alloc (.cells #[.int .i64 p.f, .int .i64 p.k, .int .u32 p.a0, .int .u32 p.a1, .int .u32 p.a2, .int .u32 p.a3, .int .i64 p.u, .int .u32 p.l0, .int .u32 p.l1, .int .u32 p.l2] 30)).alloc (.cells #[.int .i64 q.f, .int .i64 q.k, .int .u32 q.a0, .int .u32 q.a1, .int .u32 q.a2, .int .u32 q.a3, .int .i64 q.u, .int .u32 q.l0, .int .u32 q.l1, .int .u32 q.l2] 30)).alloc (.cells #[.int .u32 t.e, .int .i64 t.d, .int .u32 t.l0, .int .u32 t.l1, .int .u32 t.l2] 49)) (w.heap.size + 1 + 1) #[.int .u32 t.e, .int .i64 t.d, .int .u32 t.l0, .int .u32 t.l1, .int .u32 t.l2] 49 := by simpa using Row.new ((w.alloc (.cells #[.int .i64 p.f, .int .i64 p.k, .int .u32 p.a0, .int .u32 p.a1, .int .u32 p.a2, .int .u32 p.a3, .int .i64 p.u, .int .u32 p.l0, .int .u32 p.l1, .int .u32 p.l2] 30)).alloc (.cells #[.int .i64 q.f, .int .i64 q.k, .int .u32 q.a0, .int .u32 q.a1, .int .u32 q.a2, .int .u32 q.a3, .int .i64 q.u, .int .u32 q.l0, .int .u32 q.l1, .int .u32 q.l2] 30)) #[.int .u32 t.e, .int .i64 t.d, .int .u32 t.l0, .int .u32 t.l1, .int .u32 t.l2] 49
  have hz : Below w.heap.size w (((w.alloc (.cells #[.int .i64 p.f, .int .i64 p.k, .int .u32 p.a0, .int .u32 p.a1, .int .u32 p.a2, .int .u32 p.a3, .int .i64 p.u, .int .u32 p.l0, .int .u32 p.l1, .int .u32 p.l2] 30)).alloc (.cells #[.int .i64 q.f, .int .i64 q.k, .int .u32 q.a0, .int .u32 q.a1, .int .u32 q.a2, .int .u32 q.a3, .int .i64 q.u, .int .u32 q.l0, .int .u32 q.l1, .int .u32 q.l2] 30)).alloc (.cells #[.int .u32 t.e, .int .i64 t.d, .int .u32 t.l0, .int .u32 t.l1, .int .u32 t.l2] 49)) := below_of (below_of (below_new _ _) (below_new _ _)) (below_new _ _)
  have HZ := Lib.hid hz
  clear hz
  generalize (((w.alloc (.cells #[.int .i64 p.f, .int .i64 p.k, .int .u32 p.a0, .int .u32 p.a1, .int .u32 p.a2, .int .u32 p.a3, .int .i64 p.u, .int .u32 p.l0, .int .u32 p.l1, .int .u32 p.l2] 30)).alloc (.cells #[.int .i64 q.f, .int .i64 q.k, .int .u32 q.a0, .int .u32 q.a1, .int .u32 q.a2, .int .u32 q.a3, .int .i64 q.u, .int .u32 q.l0, .int .u32 q.l1, .int .u32 q.l2] 30)).alloc (.cells #[.int .u32 t.e, .int .i64 t.d, .int .u32 t.l0, .int .u32 t.l1, .int .u32 t.l2] 49)) = wc at hp hq ht HZ ⊢
  generalize w.heap.size = Bp at hp hq ht ⊢
  generalize Bp + 1 = Bq at hq ht ⊢
  generalize Bq + 1 = Bt at ht ⊢
  have hz := HZ.out
  clear HZ
  go_upto_region 3 with (go_at_call 37; (with_reducible refine (works_any _).mono ?_); rintro e' w1 ⟨rfl, hb1⟩; replace hp := hp.below hb1; replace hq := hq.below hb1; replace ht := ht.below hb1; replace hz := below_of hz hb1; clear hb1)
  clear wc
  obtain ⟨wc, rfl⟩ : ∃ wc, wc = w1 := ⟨_, rfl⟩
  have Hhp := Lib.hid hp
  have Hhq := Lib.hid hq
  have Hht := Lib.hid ht
  clear hp hq ht
  refine region_class (fun w => Below wc.heap.size wc w) (by kernel_rfl) (by kernel_rfl) ((Below.refl _ _).drew) ?_
  repeat
    (refine step_class (fun K hK => ?_)
     go_simp
     first
       | (refine hK _ ?_; clear hK K)
       | (with_reducible apply Hq.of
          · intro wv hv
            have Hv := Lib.hid hv
            have qp := Hhp.out.below hv
            obtain ⟨p_0, p_1, p_2, p_3, p_4, p_5, p_6, p_7, p_8, p_9, p_f⟩ := qp.ten
            clear qp
            have qq := Hhq.out.below hv
            obtain ⟨q_0, q_1, q_2, q_3, q_4, q_5, q_6, q_7, q_8, q_9, q_f⟩ := qq.ten
            clear qq
            clear hv
            go_simp
            (first
              | (with_reducible exact rfl)
              | (go_at_call 23; (with_reducible refine (law_to p _).mono ?_); rintro e' w1 ⟨rfl, hb1⟩; exact ⟨rfl, below_of Hv.out hb1⟩)
              | (go_at_call 23; (with_reducible refine (law_to q _).mono ?_); rintro e' w1 ⟨rfl, hb1⟩; exact ⟨rfl, below_of Hv.out hb1⟩)
              | (go_at_call 29; (with_reducible refine (le_any p q _).mono ?_); rw [HL.out]; rintro e' w1 ⟨rfl, hb1⟩; exact ⟨rfl, below_of Hv.out hb1⟩))
          refine hK _ ?_
          clear hK K))
  refine nil_class ?_
  intro wn hbn
  have hp := Hhp.out.below hbn
  have hq := Hhq.out.below hbn
  have ht := Hht.out.below hbn
  replace hz := below_of hz hbn
  clear Hhp Hhq Hht hbn wc
  obtain ⟨wc, rfl⟩ : ∃ wc, wc = wn := ⟨_, rfl⟩
  rcases r with _ | _
  · go_wp2
    go_ret
    exact ⟨rfl, hz⟩
  · go_upto_region 5 with (fail)
    have Hhp := Lib.hid hp
    have Hhq := Lib.hid hq
    have Hht := Lib.hid ht
    clear hp hq ht
    refine region_gen (AC wc 7 8 #[.int .u32 0, .int .i64 0, .int .u32 0, .int .u32 0, .int .u32 0] #[.int .u32 y.e, .int .i64 y.d, .int .u32 y.l0, .int .u32 y.l1, .int .u32 y.l2] 49) (by kernel_rfl) (by kernel_rfl) (AC.start _ _ _ _ _ _) ?_
    repeat
      (refine step_gen (by decide) (by rfl) (fun K hK => ?_)
       go_simp
       first
         | (with_reducible apply H1.one
            · intro σ wv hk hd hv
              have Hv := Lib.hid hv
              have qq := Hhq.out.below hv.b
              obtain ⟨q_0, q_1, q_2, q_3, q_4, q_5, q_6, q_7, q_8, q_9, q_f⟩ := qq.ten
              clear qq
              have qt := Hht.out.below hv.b
              obtain ⟨t_0, t_1, t_2, t_3, t_4, t_f⟩ := qt.atTm
              clear qt
              try (have z_ := (hv.row (hd.get 7 (List.mem_cons_self ..) (by kernel_rfl)) hk).2; obtain ⟨x_0, x_1, x_2, x_3, x_4, x_f⟩ := z_.atTm; clear z_)
              clear hv
              go_simp
              (first
                | (go_at_call 23; (with_reducible refine (law_to q _).mono ?_); rintro e' w1 ⟨rfl, hb1⟩; exact ⟨_, rfl, rfl, Hv.out.call hb1 (by decide) (by decide)⟩)
                | (go_at_call 33; (with_reducible refine (apply_any q t _ OQ.out OT.out _ _ HY.out).mono ?_); rintro e' w1 ⟨rfl, hb1⟩; exact ⟨_, rfl, rfl, Hv.out.call hb1 (by decide) (by decide)⟩)
                | (with_reducible refine ⟨rfl, ?_⟩; first | (with_reducible exact AC.pure Hv.out (by decide) (by decide)) | (with_reducible exact AC.store5 Hv.out (hd.get 7 (List.mem_cons_self ..) (by kernel_rfl)) hk (by decide))))
            refine hK _ _ _ ?_
            clear hK K)
         | (with_reducible refine H1.any IsPtr ⟨_, IsPtr.mk 0⟩ ?_ ?_
            · intro σ wv hk hd hv
              have Hv := Lib.hid hv
              go_simp
              exact ⟨IsPtr.mk _, Hv.out.alloc hk (by decide)⟩
            intro v_ hv_
            obtain ⟨X, rfl⟩ := hv_
            refine hK _ _ _ ?_
            clear hK K)
         | (with_reducible apply Sk.of
            · (intro σ wv hk hv; exact hv.pure (by decide) (by decide))
            refine hK _ _ _ ?_
            clear hK K))
    refine nil_gen ?_
    intro σ wn hσ hT hq
    obtain ⟨hbn, hy⟩ := hq.done hσ (by decide) (hT _ (List.mem_cons_self ..))
    clear hσ hT hq
    have hp := Hhp.out.below hbn
    have hq := Hhq.out.below hbn
    have ht := Hht.out.below hbn
    replace hz := below_of hz hbn
    clear Hhp Hhq Hht hbn wc
    obtain ⟨wc, rfl⟩ : ∃ wc, wc = wn := ⟨_, rfl⟩
    by_cases hd : d = 0
    · subst hd
      have hl := before_law OT.out HL.out (by rw [HY.out])
      rw [HX.out, HY.out] at hl
      obtain ⟨hl1, hl2⟩ := hl
      simp only at hl1
      subst hl1
      have HLE := Lib.hid hl2
      clear hl2
      go_upto_region 8 with (fail)
      have Hhp := Lib.hid hp
      have Hhq := Lib.hid hq
      have Hht := Lib.hid ht
      have Hhy := Lib.hid hy
      clear hp hq ht hy
      refine region_gen (AC wc 7 8 #[.int .u32 0, .int .i64 0, .int .u32 0, .int .u32 0, .int .u32 0] #[.int .u32 x.e, .int .i64 x.d, .int .u32 x.l0, .int .u32 x.l1, .int .u32 x.l2] 49) (by kernel_rfl) (by kernel_rfl) (AC.start _ _ _ _ _ _) ?_
      repeat
        (refine step_gen (by decide) (by rfl) (fun K hK => ?_)
         go_simp
         first
           | (with_reducible apply H1.one
              · intro σ wv hk hd hv
                have Hv := Lib.hid hv
                have qp := Hhp.out.below hv.b
                obtain ⟨p_0, p_1, p_2, p_3, p_4, p_5, p_6, p_7, p_8, p_9, p_f⟩ := qp.ten
                clear qp
                have qt := Hht.out.below hv.b
                obtain ⟨t_0, t_1, t_2, t_3, t_4, t_f⟩ := qt.atTm
                clear qt
                try (have z_ := (hv.row (hd.get 7 (List.mem_cons_self ..) (by kernel_rfl)) hk).2; obtain ⟨x_0, x_1, x_2, x_3, x_4, x_f⟩ := z_.atTm; clear z_)
                clear hv
                go_simp
                (first
                  | (go_at_call 23; (with_reducible refine (law_to p _).mono ?_); rintro e' w1 ⟨rfl, hb1⟩; exact ⟨_, rfl, rfl, Hv.out.call hb1 (by decide) (by decide)⟩)
                  | (go_at_call 33; (with_reducible refine (apply_any p t _ OP.out OT.out _ _ HX.out).mono ?_); rintro e' w1 ⟨rfl, hb1⟩; exact ⟨_, rfl, rfl, Hv.out.call hb1 (by decide) (by decide)⟩)
                  | (with_reducible refine ⟨rfl, ?_⟩; first | (with_reducible exact AC.pure Hv.out (by decide) (by decide)) | (with_reducible exact AC.store5 Hv.out (hd.get 7 (List.mem_cons_self ..) (by kernel_rfl)) hk (by decide))))
              refine hK _ _ _ ?_
              clear hK K)
           | (with_reducible refine H1.any IsPtr ⟨_, IsPtr.mk 0⟩ ?_ ?_
              · intro σ wv hk hd hv
                have Hv := Lib.hid hv
                go_simp
                exact ⟨IsPtr.mk _, Hv.out.alloc hk (by decide)⟩
              intro v_ hv_
              obtain ⟨X, rfl⟩ := hv_
              refine hK _ _ _ ?_
              clear hK K)
           | (with_reducible apply Sk.of
              · (intro σ wv hk hv; exact hv.pure (by decide) (by decide))
              refine hK _ _ _ ?_
              clear hK K))
      refine nil_gen ?_
      intro σ wn hσ hT hq
      obtain ⟨hbn, hx⟩ := hq.done hσ (by decide) (hT _ (List.mem_cons_self ..))
      clear hσ hT hq
      have hp := Hhp.out.below hbn
      have hq := Hhq.out.below hbn
      have ht := Hht.out.below hbn
      have hy := Hhy.out.below hbn
      replace hz := below_of hz hbn
      clear Hhp Hhq Hht Hhy hbn wc
      obtain ⟨wc, rfl⟩ : ∃ wc, wc = wn := ⟨_, rfl⟩
      obtain ⟨y_0, y_1, y_2, y_3, y_4, y_f⟩ := hy.atTm
      obtain ⟨x_0, x_1, x_2, x_3, x_4, x_f⟩ := hx.atTm
      go_wp2_with (first | (go_at_call 39; (with_reducible refine (tle_any x y _).mono ?_); rw [HLE.out]; rintro e' w1 ⟨rfl, hb1⟩; replace hp := hp.below hb1; replace hq := hq.below hb1; replace ht := ht.below hb1; replace hy := hy.below hb1; replace hx := hx.below hb1; replace hz := below_of hz hb1; clear hb1; clear y_0 y_1 y_2 y_3 y_4 y_f x_0 x_1 x_2 x_3 x_4 x_f; obtain ⟨y_0, y_1, y_2, y_3, y_4, y_f⟩ := hy.atTm; obtain ⟨x_0, x_1, x_2, x_3, x_4, x_f⟩ := hx.atTm))
      go_ret
      exact ⟨rfl, hz⟩
    · have hdb : (d != 0) = true := by simp [hd]
      clear hd
      go_wp2
      go_ret
      exact ⟨rfl, hz⟩
end Go.Proofs.Ytfmnbkcjibhloaa
