/- PathBrackets: brackets do not matter. Condition: counts of uint32's range. -/
import Derived.Test.YtfmnbkcjibhloaaPThen
namespace Go.Proofs.Ytfmnbkcjibhloaa
open Go.RowKit
set_option linter.unusedVariables false
set_option linter.unusedSimpArgs false
attribute [local go_sem] eqA4 eqA3 G.upon_value G.upon_skip G.upon_enter G.runAt_run
open G
theorem okStay (d : Int) : PaOk ⟨d, d, 0, 0, 0, 0, 0, 0, 0, 0⟩ := by
  have z : U32 0 := by unfold U32; omega
  exact ⟨z, z, z, z, z, z, z⟩
set_option maxRecDepth 100000 in
set_option maxHeartbeats 16000000 in
theorem pbrackets_any (p : Pa) (q : Pa) (s : Pa) (w : World) (okp : PaOk p) (okq : PaOk q) (oks : PaOk s) : Calls Try.prog 7 #[.agg #[.int .i64 p.f, .int .i64 p.k, .int .u32 p.a0, .int .u32 p.a1, .int .u32 p.a2, .int .u32 p.a3, .int .i64 p.u, .int .u32 p.l0, .int .u32 p.l1, .int .u32 p.l2], .agg #[.int .i64 q.f, .int .i64 q.k, .int .u32 q.a0, .int .u32 q.a1, .int .u32 q.a2, .int .u32 q.a3, .int .i64 q.u, .int .u32 q.l0, .int .u32 q.l1, .int .u32 q.l2], .agg #[.int .i64 s.f, .int .i64 s.k, .int .u32 s.a0, .int .u32 s.a1, .int .u32 s.a2, .int .u32 s.a3, .int .i64 s.u, .int .u32 s.l0, .int .u32 s.l1, .int .u32 s.l2]] w fun e' w' => e' = .returned (.bool true) ∧ Below w.heap.size w w' := by
  obtain ⟨⟨a, e⟩, h_⟩ : ∃ xc, thenR p q = xc := ⟨_, rfl⟩
  have HA := Lib.hid h_
  clear h_
  obtain ⟨⟨bb, f⟩, h_⟩ : ∃ xc, thenR q s = xc := ⟨_, rfl⟩
  have HB := Lib.hid h_
  clear h_
  obtain ⟨⟨x, g⟩, h_⟩ : ∃ xc, thenR a s = xc := ⟨_, rfl⟩
  have HX := Lib.hid h_
  clear h_
  obtain ⟨⟨y, h⟩, h_⟩ : ∃ xc, thenR p bb = xc := ⟨_, rfl⟩
  have HY := Lib.hid h_
  clear h_
  obtain ⟨cp, h_⟩ : ∃ c, chk p = c := ⟨_, rfl⟩
  have HC := Lib.hid h_
  clear h_
  obtain ⟨tp, h_⟩ : ∃ c, toR p = c := ⟨_, rfl⟩
  have HTP := Lib.hid h_
  clear h_
  have OP := Lib.hid okp
  have OQ := Lib.hid okq
  have OS := Lib.hid oks
  have OA := Lib.hid (then_okp okp okq HA.out)
  have OB := Lib.hid (then_okp okq oks HB.out)
  clear okp okq oks
  go_enter Try.func7, Try.ntmps7
  go_upto_region 1 with (fail)
  have hp : Row (((w.alloc (.cells #[.int .i64 p.f, .int .i64 p.k, .int .u32 p.a0, .int .u32 p.a1, .int .u32 p.a2, .int .u32 p.a3, .int .i64 p.u, .int .u32 p.l0, .int .u32 p.l1, .int .u32 p.l2] 30)).alloc (.cells #[.int .i64 q.f, .int .i64 q.k, .int .u32 q.a0, .int .u32 q.a1, .int .u32 q.a2, .int .u32 q.a3, .int .i64 q.u, .int .u32 q.l0, .int .u32 q.l1, .int .u32 q.l2] 30)).alloc (.cells #[.int .i64 s.f, .int .i64 s.k, .int .u32 s.a0, .int .u32 s.a1, .int .u32 s.a2, .int .u32 s.a3, .int .i64 s.u, .int .u32 s.l0, .int .u32 s.l1, .int .u32 s.l2] 30)) (w.heap.size) #[.int .i64 p.f, .int .i64 p.k, .int .u32 p.a0, .int .u32 p.a1, .int .u32 p.a2, .int .u32 p.a3, .int .i64 p.u, .int .u32 p.l0, .int .u32 p.l1, .int .u32 p.l2] 30 := by simpa using ((Row.new w #[.int .i64 p.f, .int .i64 p.k, .int .u32 p.a0, .int .u32 p.a1, .int .u32 p.a2, .int .u32 p.a3, .int .i64 p.u, .int .u32 p.l0, .int .u32 p.l1, .int .u32 p.l2] 30).alloc (.cells #[.int .i64 q.f, .int .i64 q.k, .int .u32 q.a0, .int .u32 q.a1, .int .u32 q.a2, .int .u32 q.a3, .int .i64 q.u, .int .u32 q.l0, .int .u32 q.l1, .int .u32 q.l2] 30)).alloc (.cells #[.int .i64 s.f, .int .i64 s.k, .int .u32 s.a0, .int .u32 s.a1, .int .u32 s.a2, .int .u32 s.a3, .int .i64 s.u, .int .u32 s.l0, .int .u32 s.l1, .int .u32 s.l2] 30)
  have hq : Row (((w.alloc (.cells #[.int .i64 p.f, .int .i64 p.k, .int .u32 p.a0, .int .u32 p.a1, .int .u32 p.a2, .int .u32 p.a3, .int .i64 p.u, .int .u32 p.l0, .int .u32 p.l1, .int .u32 p.l2] 30)).alloc (.cells #[.int .i64 q.f, .int .i64 q.k, .int .u32 q.a0, .int .u32 q.a1, .int .u32 q.a2, .int .u32 q.a3, .int .i64 q.u, .int .u32 q.l0, .int .u32 q.l1, .int .u32 q.l2] 30)).alloc (.cells #[.int .i64 s.f, .int .i64 s.k, .int .u32 s.a0, .int .u32 s.a1, .int .u32 s.a2, .int .u32 s.a3, .int .i64 s.u, .int .u32 s.l0, .int .u32 s.l1, .int .u32 s.l2] 30)) (w.heap.size + 1) #[.int .i64 q.f, .int .i64 q.k, .int .u32 q.a0, .int .u32 q.a1, .int .u32 q.a2, .int .u32 q.a3, .int .i64 q.u, .int .u32 q.l0, .int .u32 q.l1, .int .u32 q.l2] 30 := by simpa using (Row.new (w.alloc (.cells #[.int .i64 p.f, .int .i64 p.k, .int .u32 p.a0, .int .u32 p.a1, .int .u32 p.a2, .int .u32 p.a3, .int .i64 p.u, .int .u32 p.l0, .int .u32 p.l1, .int .u32 p.l2] 30)) #[.int .i64 q.f, .int .i64 q.k, .int .u32 q.a0, .int .u32 q.a1, .int .u32 q.a2, .int .u32 q.a3, .int .i64 q.u, .int .u32 q.l0, .int .u32 q.l1, .int .u32 q.l2] 30).alloc (.cells #[.int .i64 s.f, .int .i64 s.k, .int .u32 s.a0, .int .u32 s.a1, .int .u32 s.a2, .int .u32 s.a3, .int .i64 s.u, .int .u32 s.l0, .int .u32 s.l1, .int .u32 s.l2] 30)
  have hs : Row (((w.alloc (.cells #[.int .i64 p.f, .int .i64 p.k, .int .u32 p.a0, .int .u32 p.a1, .int .u32 p.a2, .int .u32 p.a3, .int .i64 p.u, .int .u32 p.l0, .int .u32 p.l1, .int .u32 p.l2] 30)).alloc (.cells #[.int .i64 q.f, .int .i64 q.k, .int .u32 q.a0, .int .u32 q.a1, .int .u32 q.a2, .int .u32 q.a3, .int .i64 q.u, .int .u32 q.l0, .int .u32 q.l1, .int .u32 q.l2] 30)).alloc (.cells #[.int .i64 s.f, .int .i64 s.k, .int .u32 s.a0, .int .u32 s.a1, .int .u32 s.a2, .int .u32 s.a3, .int .i64 s.u, .int .u32 s.l0, .int .u32 s.l1, .int .u32 s.l2] 30)) (w.heap.size + 1 + 1) #[.int .i64 s.f, .int .i64 s.k, .int .u32 s.a0, .int .u32 s.a1, .int .u32 s.a2, .int .u32 s.a3, .int .i64 s.u, .int .u32 s.l0, .int .u32 s.l1, .int .u32 s.l2] 30 := by simpa using Row.new ((w.alloc (.cells #[.int .i64 p.f, .int .i64 p.k, .int .u32 p.a0, .int .u32 p.a1, .int .u32 p.a2, .int .u32 p.a3, .int .i64 p.u, .int .u32 p.l0, .int .u32 p.l1, .int .u32 p.l2] 30)).alloc (.cells #[.int .i64 q.f, .int .i64 q.k, .int .u32 q.a0, .int .u32 q.a1, .int .u32 q.a2, .int .u32 q.a3, .int .i64 q.u, .int .u32 q.l0, .int .u32 q.l1, .int .u32 q.l2] 30)) #[.int .i64 s.f, .int .i64 s.k, .int .u32 s.a0, .int .u32 s.a1, .int .u32 s.a2, .int .u32 s.a3, .int .i64 s.u, .int .u32 s.l0, .int .u32 s.l1, .int .u32 s.l2] 30
  have hz : Below w.heap.size w (((w.alloc (.cells #[.int .i64 p.f, .int .i64 p.k, .int .u32 p.a0, .int .u32 p.a1, .int .u32 p.a2, .int .u32 p.a3, .int .i64 p.u, .int .u32 p.l0, .int .u32 p.l1, .int .u32 p.l2] 30)).alloc (.cells #[.int .i64 q.f, .int .i64 q.k, .int .u32 q.a0, .int .u32 q.a1, .int .u32 q.a2, .int .u32 q.a3, .int .i64 q.u, .int .u32 q.l0, .int .u32 q.l1, .int .u32 q.l2] 30)).alloc (.cells #[.int .i64 s.f, .int .i64 s.k, .int .u32 s.a0, .int .u32 s.a1, .int .u32 s.a2, .int .u32 s.a3, .int .i64 s.u, .int .u32 s.l0, .int .u32 s.l1, .int .u32 s.l2] 30)) := below_of (below_of (below_new _ _) (below_new _ _)) (below_new _ _)
  have HZ := Lib.hid hz
  clear hz
  generalize (((w.alloc (.cells #[.int .i64 p.f, .int .i64 p.k, .int .u32 p.a0, .int .u32 p.a1, .int .u32 p.a2, .int .u32 p.a3, .int .i64 p.u, .int .u32 p.l0, .int .u32 p.l1, .int .u32 p.l2] 30)).alloc (.cells #[.int .i64 q.f, .int .i64 q.k, .int .u32 q.a0, .int .u32 q.a1, .int .u32 q.a2, .int .u32 q.a3, .int .i64 q.u, .int .u32 q.l0, .int .u32 q.l1, .int .u32 q.l2] 30)).alloc (.cells #[.int .i64 s.f, .int .i64 s.k, .int .u32 s.a0, .int .u32 s.a1, .int .u32 s.a2, .int .u32 s.a3, .int .i64 s.u, .int .u32 s.l0, .int .u32 s.l1, .int .u32 s.l2] 30)) = wc at hp hq hs HZ ⊢
  generalize w.heap.size = Bp at hp hq hs ⊢
  generalize Bp + 1 = Bq at hq hs ⊢
  generalize Bq + 1 = Bs at hs ⊢
  have hz := HZ.out
  clear HZ
  go_upto_region 3 with (go_at_call 37; (with_reducible refine (works_any _).mono ?_); rintro e' w1 ⟨rfl, hb1⟩; replace hp := hp.below hb1; replace hq := hq.below hb1; replace hs := hs.below hb1; replace hz := below_of hz hb1; clear hb1)
  clear wc
  obtain ⟨wc, rfl⟩ : ∃ wc, wc = w1 := ⟨_, rfl⟩
  have Hhp := Lib.hid hp
  have Hhq := Lib.hid hq
  have Hhs := Lib.hid hs
  clear hp hq hs
  refine region_gen (AC wc 8 9 #[.int .i64 0, .int .i64 0, .int .u32 0, .int .u32 0, .int .u32 0, .int .u32 0, .int .i64 0, .int .u32 0, .int .u32 0, .int .u32 0] #[.int .i64 a.f, .int .i64 a.k, .int .u32 a.a0, .int .u32 a.a1, .int .u32 a.a2, .int .u32 a.a3, .int .i64 a.u, .int .u32 a.l0, .int .u32 a.l1, .int .u32 a.l2] 26) (by kernel_rfl) (by kernel_rfl) (AC.start _ _ _ _ _ _) ?_
  repeat
    (refine step_gen (by decide) (by rfl) (fun K hK => ?_)
     go_simp
     first
       | (with_reducible apply H1.one
          · intro σ wv hk hd hv
            have Hv := Lib.hid hv
            have qp := Hhp.out.below hv.b
            obtain ⟨p_0, p_1, p_2, p_3, p_4, p_5, p_6, p_7, p_8, p_9, p_f⟩ := qp.ten
            clear qp
            have qq := Hhq.out.below hv.b
            obtain ⟨q_0, q_1, q_2, q_3, q_4, q_5, q_6, q_7, q_8, q_9, q_f⟩ := qq.ten
            clear qq
            try (have z_ := (hv.row (hd.get 8 (List.mem_cons_self ..) (by kernel_rfl)) hk).2; obtain ⟨x_0, x_1, x_2, x_3, x_4, x_5, x_6, x_7, x_8, x_9, x_f⟩ := z_.ten; clear z_)
            clear hv
            go_simp
            (first
              | (go_at_call 23; (with_reducible refine (law_to p _).mono ?_); rintro e' w1 ⟨rfl, hb1⟩; exact ⟨_, rfl, rfl, Hv.out.call hb1 (by decide) (by decide)⟩)
              | (go_at_call 23; (with_reducible refine (law_to q _).mono ?_); rintro e' w1 ⟨rfl, hb1⟩; exact ⟨_, rfl, rfl, Hv.out.call hb1 (by decide) (by decide)⟩)
              | (go_at_call 35; (with_reducible refine (then_any p q _ OP.out OQ.out _ _ HA.out).mono ?_); rintro e' w1 ⟨rfl, hb1⟩; exact ⟨_, rfl, rfl, Hv.out.call hb1 (by decide) (by decide)⟩)
              | (with_reducible refine ⟨rfl, ?_⟩; first | (with_reducible exact AC.pure Hv.out (by decide) (by decide)) | (with_reducible exact AC.store10 Hv.out (hd.get 8 (List.mem_cons_self ..) (by kernel_rfl)) hk (by decide))))
          refine hK _ _ _ ?_
          clear hK K)
       | (with_reducible refine H1.any IsPtr ⟨_, IsPtr.mk 0⟩ ?_ ?_
          · intro σ wv hk hd hv
            have Hv := Lib.hid hv
            go_simp
            exact ⟨IsPtr.mk _, Hv.out.alloc hk (by decide)⟩
          intro v_ hv_
          obtain ⟨X, rfl⟩ := hv_
          refine hK _ _ _ ?_
          clear hK K)
       | (with_reducible apply Sk.of
          · (intro σ wv hk hv; exact hv.pure (by decide) (by decide))
          refine hK _ _ _ ?_
          clear hK K))
  refine nil_gen ?_
  intro σ wn hσ hT hq
  obtain ⟨hbn, ha⟩ := hq.done hσ (by decide) (hT _ (List.mem_cons_self ..))
  clear hσ hT hq
  have hp := Hhp.out.below hbn
  have hq := Hhq.out.below hbn
  have hs := Hhs.out.below hbn
  replace hz := below_of hz hbn
  clear Hhp Hhq Hhs hbn wc
  obtain ⟨wc, rfl⟩ : ∃ wc, wc = wn := ⟨_, rfl⟩
  go_upto_region 4 with (fail)
  have Hhp := Lib.hid hp
  have Hhq := Lib.hid hq
  have Hhs := Lib.hid hs
  have Hha := Lib.hid ha
  clear hp hq hs ha
  refine region_gen (AC wc 8 9 #[.int .i64 0, .int .i64 0, .int .u32 0, .int .u32 0, .int .u32 0, .int .u32 0, .int .i64 0, .int .u32 0, .int .u32 0, .int .u32 0] #[.int .i64 bb.f, .int .i64 bb.k, .int .u32 bb.a0, .int .u32 bb.a1, .int .u32 bb.a2, .int .u32 bb.a3, .int .i64 bb.u, .int .u32 bb.l0, .int .u32 bb.l1, .int .u32 bb.l2] 26) (by kernel_rfl) (by kernel_rfl) (AC.start _ _ _ _ _ _) ?_
  repeat
    (refine step_gen (by decide) (by rfl) (fun K hK => ?_)
     go_simp
     first
       | (with_reducible apply H1.one
          · intro σ wv hk hd hv
            have Hv := Lib.hid hv
            have qq := Hhq.out.below hv.b
            obtain ⟨q_0, q_1, q_2, q_3, q_4, q_5, q_6, q_7, q_8, q_9, q_f⟩ := qq.ten
            clear qq
            have qs := Hhs.out.below hv.b
            obtain ⟨s_0, s_1, s_2, s_3, s_4, s_5, s_6, s_7, s_8, s_9, s_f⟩ := qs.ten
            clear qs
            try (have z_ := (hv.row (hd.get 8 (List.mem_cons_self ..) (by kernel_rfl)) hk).2; obtain ⟨x_0, x_1, x_2, x_3, x_4, x_5, x_6, x_7, x_8, x_9, x_f⟩ := z_.ten; clear z_)
            clear hv
            go_simp
            (first
              | (go_at_call 23; (with_reducible refine (law_to q _).mono ?_); rintro e' w1 ⟨rfl, hb1⟩; exact ⟨_, rfl, rfl, Hv.out.call hb1 (by decide) (by decide)⟩)
              | (go_at_call 23; (with_reducible refine (law_to s _).mono ?_); rintro e' w1 ⟨rfl, hb1⟩; exact ⟨_, rfl, rfl, Hv.out.call hb1 (by decide) (by decide)⟩)
              | (go_at_call 35; (with_reducible refine (then_any q s _ OQ.out OS.out _ _ HB.out).mono ?_); rintro e' w1 ⟨rfl, hb1⟩; exact ⟨_, rfl, rfl, Hv.out.call hb1 (by decide) (by decide)⟩)
              | (with_reducible refine ⟨rfl, ?_⟩; first | (with_reducible exact AC.pure Hv.out (by decide) (by decide)) | (with_reducible exact AC.store10 Hv.out (hd.get 8 (List.mem_cons_self ..) (by kernel_rfl)) hk (by decide))))
          refine hK _ _ _ ?_
          clear hK K)
       | (with_reducible refine H1.any IsPtr ⟨_, IsPtr.mk 0⟩ ?_ ?_
          · intro σ wv hk hd hv
            have Hv := Lib.hid hv
            go_simp
            exact ⟨IsPtr.mk _, Hv.out.alloc hk (by decide)⟩
          intro v_ hv_
          obtain ⟨X, rfl⟩ := hv_
          refine hK _ _ _ ?_
          clear hK K)
       | (with_reducible apply Sk.of
          · (intro σ wv hk hv; exact hv.pure (by decide) (by decide))
          refine hK _ _ _ ?_
          clear hK K))
  refine nil_gen ?_
  intro σ wn hσ hT hq
  obtain ⟨hbn, hbb⟩ := hq.done hσ (by decide) (hT _ (List.mem_cons_self ..))
  clear hσ hT hq
  have hp := Hhp.out.below hbn
  have hq := Hhq.out.below hbn
  have hs := Hhs.out.below hbn
  have ha := Hha.out.below hbn
  replace hz := below_of hz hbn
  clear Hhp Hhq Hhs Hha hbn wc
  obtain ⟨wc, rfl⟩ : ∃ wc, wc = wn := ⟨_, rfl⟩
  by_cases he : e = 0
  · subst he
    by_cases hf : f = 0
    · subst hf
      go_upto_region 6 with (fail)
      have Hhp := Lib.hid hp
      have Hhq := Lib.hid hq
      have Hhs := Lib.hid hs
      have Hha := Lib.hid ha
      have Hhbb := Lib.hid hbb
      clear hp hq hs ha hbb
      refine region_gen (AC wc 7 8 #[.int .i64 0, .int .i64 0, .int .u32 0, .int .u32 0, .int .u32 0, .int .u32 0, .int .i64 0, .int .u32 0, .int .u32 0, .int .u32 0] #[.int .i64 x.f, .int .i64 x.k, .int .u32 x.a0, .int .u32 x.a1, .int .u32 x.a2, .int .u32 x.a3, .int .i64 x.u, .int .u32 x.l0, .int .u32 x.l1, .int .u32 x.l2] 26) (by kernel_rfl) (by kernel_rfl) (AC.start _ _ _ _ _ _) ?_
      repeat
        (refine step_gen (by decide) (by rfl) (fun K hK => ?_)
         go_simp
         first
           | (with_reducible apply H1.one
              · intro σ wv hk hd hv
                have Hv := Lib.hid hv
                have qs := Hhs.out.below hv.b
                obtain ⟨s_0, s_1, s_2, s_3, s_4, s_5, s_6, s_7, s_8, s_9, s_f⟩ := qs.ten
                clear qs
                have qa := Hha.out.below hv.b
                obtain ⟨a_0, a_1, a_2, a_3, a_4, a_5, a_6, a_7, a_8, a_9, a_f⟩ := qa.ten
                clear qa
                try (have z_ := (hv.row (hd.get 7 (List.mem_cons_self ..) (by kernel_rfl)) hk).2; obtain ⟨x_0, x_1, x_2, x_3, x_4, x_5, x_6, x_7, x_8, x_9, x_f⟩ := z_.ten; clear z_)
                clear hv
                go_simp
                (first
                  | (go_at_call 23; (with_reducible refine (law_to s _).mono ?_); rintro e' w1 ⟨rfl, hb1⟩; exact ⟨_, rfl, rfl, Hv.out.call hb1 (by decide) (by decide)⟩)
                  | (go_at_call 35; (with_reducible refine (then_any a s _ OA.out OS.out _ _ HX.out).mono ?_); rintro e' w1 ⟨rfl, hb1⟩; exact ⟨_, rfl, rfl, Hv.out.call hb1 (by decide) (by decide)⟩)
                  | (with_reducible refine ⟨rfl, ?_⟩; first | (with_reducible exact AC.pure Hv.out (by decide) (by decide)) | (with_reducible exact AC.store10 Hv.out (hd.get 7 (List.mem_cons_self ..) (by kernel_rfl)) hk (by decide))))
              refine hK _ _ _ ?_
              clear hK K)
           | (with_reducible refine H1.any IsPtr ⟨_, IsPtr.mk 0⟩ ?_ ?_
              · intro σ wv hk hd hv
                have Hv := Lib.hid hv
                go_simp
                exact ⟨IsPtr.mk _, Hv.out.alloc hk (by decide)⟩
              intro v_ hv_
              obtain ⟨X, rfl⟩ := hv_
              refine hK _ _ _ ?_
              clear hK K)
           | (with_reducible apply Sk.of
              · (intro σ wv hk hv; exact hv.pure (by decide) (by decide))
              refine hK _ _ _ ?_
              clear hK K))
      refine nil_gen ?_
      intro σ wn hσ hT hq
      obtain ⟨hbn, hx⟩ := hq.done hσ (by decide) (hT _ (List.mem_cons_self ..))
      clear hσ hT hq
      have hp := Hhp.out.below hbn
      have hq := Hhq.out.below hbn
      have hs := Hhs.out.below hbn
      have ha := Hha.out.below hbn
      have hbb := Hhbb.out.below hbn
      replace hz := below_of hz hbn
      clear Hhp Hhq Hhs Hha Hhbb hbn wc
      obtain ⟨wc, rfl⟩ : ∃ wc, wc = wn := ⟨_, rfl⟩
      go_upto_region 7 with (fail)
      have Hhp := Lib.hid hp
      have Hhq := Lib.hid hq
      have Hhs := Lib.hid hs
      have Hha := Lib.hid ha
      have Hhbb := Lib.hid hbb
      have Hhx := Lib.hid hx
      clear hp hq hs ha hbb hx
      refine region_gen (AC wc 7 8 #[.int .i64 0, .int .i64 0, .int .u32 0, .int .u32 0, .int .u32 0, .int .u32 0, .int .i64 0, .int .u32 0, .int .u32 0, .int .u32 0] #[.int .i64 y.f, .int .i64 y.k, .int .u32 y.a0, .int .u32 y.a1, .int .u32 y.a2, .int .u32 y.a3, .int .i64 y.u, .int .u32 y.l0, .int .u32 y.l1, .int .u32 y.l2] 26) (by kernel_rfl) (by kernel_rfl) (AC.start _ _ _ _ _ _) ?_
      repeat
        (refine step_gen (by decide) (by rfl) (fun K hK => ?_)
         go_simp
         first
           | (with_reducible apply H1.one
              · intro σ wv hk hd hv
                have Hv := Lib.hid hv
                have qp := Hhp.out.below hv.b
                obtain ⟨p_0, p_1, p_2, p_3, p_4, p_5, p_6, p_7, p_8, p_9, p_f⟩ := qp.ten
                clear qp
                have qbb := Hhbb.out.below hv.b
                obtain ⟨bb_0, bb_1, bb_2, bb_3, bb_4, bb_5, bb_6, bb_7, bb_8, bb_9, bb_f⟩ := qbb.ten
                clear qbb
                try (have z_ := (hv.row (hd.get 7 (List.mem_cons_self ..) (by kernel_rfl)) hk).2; obtain ⟨x_0, x_1, x_2, x_3, x_4, x_5, x_6, x_7, x_8, x_9, x_f⟩ := z_.ten; clear z_)
                clear hv
                go_simp
                (first
                  | (go_at_call 23; (with_reducible refine (law_to p _).mono ?_); rintro e' w1 ⟨rfl, hb1⟩; exact ⟨_, rfl, rfl, Hv.out.call hb1 (by decide) (by decide)⟩)
                  | (go_at_call 35; (with_reducible refine (then_any p bb _ OP.out OB.out _ _ HY.out).mono ?_); rintro e' w1 ⟨rfl, hb1⟩; exact ⟨_, rfl, rfl, Hv.out.call hb1 (by decide) (by decide)⟩)
                  | (with_reducible refine ⟨rfl, ?_⟩; first | (with_reducible exact AC.pure Hv.out (by decide) (by decide)) | (with_reducible exact AC.store10 Hv.out (hd.get 7 (List.mem_cons_self ..) (by kernel_rfl)) hk (by decide))))
              refine hK _ _ _ ?_
              clear hK K)
           | (with_reducible refine H1.any IsPtr ⟨_, IsPtr.mk 0⟩ ?_ ?_
              · intro σ wv hk hd hv
                have Hv := Lib.hid hv
                go_simp
                exact ⟨IsPtr.mk _, Hv.out.alloc hk (by decide)⟩
              intro v_ hv_
              obtain ⟨X, rfl⟩ := hv_
              refine hK _ _ _ ?_
              clear hK K)
           | (with_reducible apply Sk.of
              · (intro σ wv hk hv; exact hv.pure (by decide) (by decide))
              refine hK _ _ _ ?_
              clear hK K))
      refine nil_gen ?_
      intro σ wn hσ hT hq
      obtain ⟨hbn, hy⟩ := hq.done hσ (by decide) (hT _ (List.mem_cons_self ..))
      clear hσ hT hq
      have hp := Hhp.out.below hbn
      have hq := Hhq.out.below hbn
      have hs := Hhs.out.below hbn
      have ha := Hha.out.below hbn
      have hbb := Hhbb.out.below hbn
      have hx := Hhx.out.below hbn
      replace hz := below_of hz hbn
      clear Hhp Hhq Hhs Hha Hhbb Hhx hbn wc
      obtain ⟨wc, rfl⟩ : ∃ wc, wc = wn := ⟨_, rfl⟩
      by_cases hg : g = 0
      · subst hg
        by_cases hh : h = 0
        · subst hh
          have hl := brackets_law p q s (by rw [HA.out]) (by rw [HB.out]) (by rw [HA.out, HX.out]) (by rw [HB.out, HY.out])
          rw [HA.out, HB.out, HX.out, HY.out] at hl
          simp only at hl
          subst hl
          obtain ⟨x_0, x_1, x_2, x_3, x_4, x_5, x_6, x_7, x_8, x_9, x_f⟩ := hx.ten
          obtain ⟨y_0, y_1, y_2, y_3, y_4, y_5, y_6, y_7, y_8, y_9, y_f⟩ := hy.ten
          go_upto_region 10 with (fail)
          clear x_0 x_1 x_2 x_3 x_4 x_5 x_6 x_7 x_8 x_9 x_f y_0 y_1 y_2 y_3 y_4 y_5 y_6 y_7 y_8 y_9 y_f
          by_cases hcp : cp = 0
          · subst hcp
            obtain ⟨p_0, p_1, p_2, p_3, p_4, p_5, p_6, p_7, p_8, p_9, p_f⟩ := hp.ten
            go_upto_region 12 with (first | (go_at_call 23; (with_reducible refine (law_to p _).mono ?_); rintro e' w1 ⟨rfl, hb1⟩; replace hp := hp.below hb1; replace hq := hq.below hb1; replace hs := hs.below hb1; replace ha := ha.below hb1; replace hbb := hbb.below hb1; replace hx := hx.below hb1; replace hy := hy.below hb1; replace hz := below_of hz hb1; clear hb1) | (go_at_call 22; (with_reducible refine (check_all p.f p.k p.a0 p.a1 p.a2 p.a3 p.u p.l0 p.l1 p.l2 _ _ HC.out).mono ?_); rintro e' w1 ⟨rfl, hb1⟩; replace hp := hp.below hb1; replace hq := hq.below hb1; replace hs := hs.below hb1; replace ha := ha.below hb1; replace hbb := hbb.below hb1; replace hx := hx.below hb1; replace hy := hy.below hb1; replace hz := below_of hz hb1; clear hb1))
            clear p_0 p_1 p_2 p_3 p_4 p_5 p_6 p_7 p_8 p_9 p_f
            obtain ⟨wc, rfl⟩ : ∃ wc, wc = w1 := ⟨_, rfl⟩
            have g := good_iff.1 HC.out
            have i1 := Lib.hid (show inB p.f = true by have := g.f0; have := g.f3; simp [inB]; omega)
            have i2 := Lib.hid (show inB tp = true by rw [← HTP.out, g.to]; have := g.k0; have := g.u0; have := g.u3; simp [inB]; omega)
            have l1 := Lib.hid (show thenR ⟨p.f, p.f, 0, 0, 0, 0, 0, 0, 0, 0⟩ ⟨p.f, p.k, p.a0, p.a1, p.a2, p.a3, p.u, p.l0, p.l1, p.l2⟩ = (p, 0) from (stay_law HC.out).1)
            have hl2 := (stay_law HC.out).2
            rw [HTP.out] at hl2
            have l2 := Lib.hid (show thenR ⟨p.f, p.k, p.a0, p.a1, p.a2, p.a3, p.u, p.l0, p.l1, p.l2⟩ ⟨tp, tp, 0, 0, 0, 0, 0, 0, 0, 0⟩ = (p, 0) from hl2)
            have bf : U32 p.f := by have := g.f0; have := g.f3; unfold U32; omega
            clear hl2 g bf
            obtain ⟨p_0, p_1, p_2, p_3, p_4, p_5, p_6, p_7, p_8, p_9, p_f⟩ := hp.ten
            go_upto_region 13 with (first | (go_at_call 11; (with_reducible refine (stay_yes p.f i1.out _).mono ?_); rintro e' w1 ⟨rfl, hb1⟩; replace hp := hp.below hb1; replace hq := hq.below hb1; replace hs := hs.below hb1; replace ha := ha.below hb1; replace hbb := hbb.below hb1; replace hx := hx.below hb1; replace hy := hy.below hb1; replace hz := below_of hz hb1; clear hb1))
            clear p_0 p_1 p_2 p_3 p_4 p_5 p_6 p_7 p_8 p_9 p_f
            have hu := Row.new w1 #[.int .i64 p.f, .int .i64 p.f, .int .u32 0, .int .u32 0, .int .u32 0, .int .u32 0, .int .i64 0, .int .u32 0, .int .u32 0, .int .u32 0] 26
            replace hp := hp.alloc (.cells #[.int .i64 p.f, .int .i64 p.f, .int .u32 0, .int .u32 0, .int .u32 0, .int .u32 0, .int .i64 0, .int .u32 0, .int .u32 0, .int .u32 0] 26)
            replace hq := hq.alloc (.cells #[.int .i64 p.f, .int .i64 p.f, .int .u32 0, .int .u32 0, .int .u32 0, .int .u32 0, .int .i64 0, .int .u32 0, .int .u32 0, .int .u32 0] 26)
            replace hs := hs.alloc (.cells #[.int .i64 p.f, .int .i64 p.f, .int .u32 0, .int .u32 0, .int .u32 0, .int .u32 0, .int .i64 0, .int .u32 0, .int .u32 0, .int .u32 0] 26)
            replace ha := ha.alloc (.cells #[.int .i64 p.f, .int .i64 p.f, .int .u32 0, .int .u32 0, .int .u32 0, .int .u32 0, .int .i64 0, .int .u32 0, .int .u32 0, .int .u32 0] 26)
            replace hbb := hbb.alloc (.cells #[.int .i64 p.f, .int .i64 p.f, .int .u32 0, .int .u32 0, .int .u32 0, .int .u32 0, .int .i64 0, .int .u32 0, .int .u32 0, .int .u32 0] 26)
            replace hx := hx.alloc (.cells #[.int .i64 p.f, .int .i64 p.f, .int .u32 0, .int .u32 0, .int .u32 0, .int .u32 0, .int .i64 0, .int .u32 0, .int .u32 0, .int .u32 0] 26)
            replace hy := hy.alloc (.cells #[.int .i64 p.f, .int .i64 p.f, .int .u32 0, .int .u32 0, .int .u32 0, .int .u32 0, .int .i64 0, .int .u32 0, .int .u32 0, .int .u32 0] 26)
            replace hz := below_of hz (below_new w1 (.cells #[.int .i64 p.f, .int .i64 p.f, .int .u32 0, .int .u32 0, .int .u32 0, .int .u32 0, .int .i64 0, .int .u32 0, .int .u32 0, .int .u32 0] 26))
            generalize w1.heap.size = Xu at hu ⊢
            generalize w1.alloc (.cells #[.int .i64 p.f, .int .i64 p.f, .int .u32 0, .int .u32 0, .int .u32 0, .int .u32 0, .int .i64 0, .int .u32 0, .int .u32 0, .int .u32 0] 26) = wd at hu hp hq hs ha hbb hx hy hz ⊢
            obtain ⟨wc, rfl⟩ : ∃ wc, wc = wd := ⟨_, rfl⟩
            obtain ⟨p_0, p_1, p_2, p_3, p_4, p_5, p_6, p_7, p_8, p_9, p_f⟩ := hp.ten
            go_upto_region 14 with (first | (go_at_call 23; (with_reducible refine (law_to p _).mono ?_); rintro e' w1 ⟨rfl, hb1⟩; replace hp := hp.below hb1; replace hq := hq.below hb1; replace hs := hs.below hb1; replace ha := ha.below hb1; replace hbb := hbb.below hb1; replace hx := hx.below hb1; replace hy := hy.below hb1; replace hu := hu.below hb1; replace hz := below_of hz hb1; clear hb1) | (go_at_call 25; (with_reducible refine (to_all p.f p.k p.a0 p.a1 p.a2 p.a3 p.u p.l0 p.l1 p.l2 _ _ HTP.out).mono ?_); rintro e' w1 ⟨rfl, hb1⟩; replace hp := hp.below hb1; replace hq := hq.below hb1; replace hs := hs.below hb1; replace ha := ha.below hb1; replace hbb := hbb.below hb1; replace hx := hx.below hb1; replace hy := hy.below hb1; replace hu := hu.below hb1; replace hz := below_of hz hb1; clear hb1) | (go_at_call 11; (with_reducible refine (stay_yes tp i2.out _).mono ?_); rintro e' w1 ⟨rfl, hb1⟩; replace hp := hp.below hb1; replace hq := hq.below hb1; replace hs := hs.below hb1; replace ha := ha.below hb1; replace hbb := hbb.below hb1; replace hx := hx.below hb1; replace hy := hy.below hb1; replace hu := hu.below hb1; replace hz := below_of hz hb1; clear hb1))
            clear p_0 p_1 p_2 p_3 p_4 p_5 p_6 p_7 p_8 p_9 p_f
            have hv := Row.new w1 #[.int .i64 tp, .int .i64 tp, .int .u32 0, .int .u32 0, .int .u32 0, .int .u32 0, .int .i64 0, .int .u32 0, .int .u32 0, .int .u32 0] 26
            replace hp := hp.alloc (.cells #[.int .i64 tp, .int .i64 tp, .int .u32 0, .int .u32 0, .int .u32 0, .int .u32 0, .int .i64 0, .int .u32 0, .int .u32 0, .int .u32 0] 26)
            replace hq := hq.alloc (.cells #[.int .i64 tp, .int .i64 tp, .int .u32 0, .int .u32 0, .int .u32 0, .int .u32 0, .int .i64 0, .int .u32 0, .int .u32 0, .int .u32 0] 26)
            replace hs := hs.alloc (.cells #[.int .i64 tp, .int .i64 tp, .int .u32 0, .int .u32 0, .int .u32 0, .int .u32 0, .int .i64 0, .int .u32 0, .int .u32 0, .int .u32 0] 26)
            replace ha := ha.alloc (.cells #[.int .i64 tp, .int .i64 tp, .int .u32 0, .int .u32 0, .int .u32 0, .int .u32 0, .int .i64 0, .int .u32 0, .int .u32 0, .int .u32 0] 26)
            replace hbb := hbb.alloc (.cells #[.int .i64 tp, .int .i64 tp, .int .u32 0, .int .u32 0, .int .u32 0, .int .u32 0, .int .i64 0, .int .u32 0, .int .u32 0, .int .u32 0] 26)
            replace hx := hx.alloc (.cells #[.int .i64 tp, .int .i64 tp, .int .u32 0, .int .u32 0, .int .u32 0, .int .u32 0, .int .i64 0, .int .u32 0, .int .u32 0, .int .u32 0] 26)
            replace hy := hy.alloc (.cells #[.int .i64 tp, .int .i64 tp, .int .u32 0, .int .u32 0, .int .u32 0, .int .u32 0, .int .i64 0, .int .u32 0, .int .u32 0, .int .u32 0] 26)
            replace hu := hu.alloc (.cells #[.int .i64 tp, .int .i64 tp, .int .u32 0, .int .u32 0, .int .u32 0, .int .u32 0, .int .i64 0, .int .u32 0, .int .u32 0, .int .u32 0] 26)
            replace hz := below_of hz (below_new w1 (.cells #[.int .i64 tp, .int .i64 tp, .int .u32 0, .int .u32 0, .int .u32 0, .int .u32 0, .int .i64 0, .int .u32 0, .int .u32 0, .int .u32 0] 26))
            generalize w1.heap.size = Xv at hv ⊢
            generalize w1.alloc (.cells #[.int .i64 tp, .int .i64 tp, .int .u32 0, .int .u32 0, .int .u32 0, .int .u32 0, .int .i64 0, .int .u32 0, .int .u32 0, .int .u32 0] 26) = wd at hv hp hq hs ha hbb hx hy hu hz ⊢
            obtain ⟨wc, rfl⟩ : ∃ wc, wc = wd := ⟨_, rfl⟩
            have Hhp := Lib.hid hp
            have Hhq := Lib.hid hq
            have Hhs := Lib.hid hs
            have Hha := Lib.hid ha
            have Hhbb := Lib.hid hbb
            have Hhx := Lib.hid hx
            have Hhy := Lib.hid hy
            have Hhu := Lib.hid hu
            have Hhv := Lib.hid hv
            clear hp hq hs ha hbb hx hy hu hv
            refine region_gen (AC wc 7 8 #[.int .i64 0, .int .i64 0, .int .u32 0, .int .u32 0, .int .u32 0, .int .u32 0, .int .i64 0, .int .u32 0, .int .u32 0, .int .u32 0] #[.int .i64 p.f, .int .i64 p.k, .int .u32 p.a0, .int .u32 p.a1, .int .u32 p.a2, .int .u32 p.a3, .int .i64 p.u, .int .u32 p.l0, .int .u32 p.l1, .int .u32 p.l2] 26) (by kernel_rfl) (by kernel_rfl) (AC.start _ _ _ _ _ _) ?_
            repeat
              (refine step_gen (by decide) (by rfl) (fun K hK => ?_)
               go_simp
               first
                 | (with_reducible apply H1.one
                    · intro σ wv hk hd hv
                      have Hv := Lib.hid hv
                      have qp := Hhp.out.below hv.b
                      obtain ⟨p_0, p_1, p_2, p_3, p_4, p_5, p_6, p_7, p_8, p_9, p_f⟩ := qp.ten
                      clear qp
                      have qu := Hhu.out.below hv.b
                      obtain ⟨u_0, u_1, u_2, u_3, u_4, u_5, u_6, u_7, u_8, u_9, u_f⟩ := qu.ten
                      clear qu
                      try (have z_ := (hv.row (hd.get 7 (List.mem_cons_self ..) (by kernel_rfl)) hk).2; obtain ⟨x_0, x_1, x_2, x_3, x_4, x_5, x_6, x_7, x_8, x_9, x_f⟩ := z_.ten; clear z_)
                      clear hv
                      go_simp
                      (first
                        | (go_at_call 23; (with_reducible refine (law_to p _).mono ?_); rintro e' w1 ⟨rfl, hb1⟩; exact ⟨_, rfl, rfl, Hv.out.call hb1 (by decide) (by decide)⟩)
                        | (go_at_call 35; (with_reducible refine (then_all p.f p.f 0 0 0 0 0 0 0 0 p.f p.k p.a0 p.a1 p.a2 p.a3 p.u p.l0 p.l1 p.l2 _ (okStay p.f) OP.out _ _ l1.out).mono ?_); rintro e' w1 ⟨rfl, hb1⟩; exact ⟨_, rfl, rfl, Hv.out.call hb1 (by decide) (by decide)⟩)
                        | (with_reducible refine ⟨rfl, ?_⟩; first | (with_reducible exact AC.pure Hv.out (by decide) (by decide)) | (with_reducible exact AC.store10 Hv.out (hd.get 7 (List.mem_cons_self ..) (by kernel_rfl)) hk (by decide))))
                    refine hK _ _ _ ?_
                    clear hK K)
                 | (with_reducible refine H1.any IsPtr ⟨_, IsPtr.mk 0⟩ ?_ ?_
                    · intro σ wv hk hd hv
                      have Hv := Lib.hid hv
                      go_simp
                      exact ⟨IsPtr.mk _, Hv.out.alloc hk (by decide)⟩
                    intro v_ hv_
                    obtain ⟨X, rfl⟩ := hv_
                    refine hK _ _ _ ?_
                    clear hK K)
                 | (with_reducible apply Sk.of
                    · (intro σ wv hk hv; exact hv.pure (by decide) (by decide))
                    refine hK _ _ _ ?_
                    clear hK K))
            refine nil_gen ?_
            intro σ wn hσ hT hq
            obtain ⟨hbn, hc⟩ := hq.done hσ (by decide) (hT _ (List.mem_cons_self ..))
            clear hσ hT hq
            have hp := Hhp.out.below hbn
            have hq := Hhq.out.below hbn
            have hs := Hhs.out.below hbn
            have ha := Hha.out.below hbn
            have hbb := Hhbb.out.below hbn
            have hx := Hhx.out.below hbn
            have hy := Hhy.out.below hbn
            have hu := Hhu.out.below hbn
            have hv := Hhv.out.below hbn
            replace hz := below_of hz hbn
            clear Hhp Hhq Hhs Hha Hhbb Hhx Hhy Hhu Hhv hbn wc
            obtain ⟨wc, rfl⟩ : ∃ wc, wc = wn := ⟨_, rfl⟩
            go_upto_region 15 with (fail)
            have Hhp := Lib.hid hp
            have Hhq := Lib.hid hq
            have Hhs := Lib.hid hs
            have Hha := Lib.hid ha
            have Hhbb := Lib.hid hbb
            have Hhx := Lib.hid hx
            have Hhy := Lib.hid hy
            have Hhu := Lib.hid hu
            have Hhv := Lib.hid hv
            have Hhc := Lib.hid hc
            clear hp hq hs ha hbb hx hy hu hv hc
            refine region_gen (AC wc 7 8 #[.int .i64 0, .int .i64 0, .int .u32 0, .int .u32 0, .int .u32 0, .int .u32 0, .int .i64 0, .int .u32 0, .int .u32 0, .int .u32 0] #[.int .i64 p.f, .int .i64 p.k, .int .u32 p.a0, .int .u32 p.a1, .int .u32 p.a2, .int .u32 p.a3, .int .i64 p.u, .int .u32 p.l0, .int .u32 p.l1, .int .u32 p.l2] 26) (by kernel_rfl) (by kernel_rfl) (AC.start _ _ _ _ _ _) ?_
            repeat
              (refine step_gen (by decide) (by rfl) (fun K hK => ?_)
               go_simp
               first
                 | (with_reducible apply H1.one
                    · intro σ wv hk hd hv
                      have Hv := Lib.hid hv
                      have qp := Hhp.out.below hv.b
                      obtain ⟨p_0, p_1, p_2, p_3, p_4, p_5, p_6, p_7, p_8, p_9, p_f⟩ := qp.ten
                      clear qp
                      have qv := Hhv.out.below hv.b
                      obtain ⟨v_0, v_1, v_2, v_3, v_4, v_5, v_6, v_7, v_8, v_9, v_f⟩ := qv.ten
                      clear qv
                      try (have z_ := (hv.row (hd.get 7 (List.mem_cons_self ..) (by kernel_rfl)) hk).2; obtain ⟨x_0, x_1, x_2, x_3, x_4, x_5, x_6, x_7, x_8, x_9, x_f⟩ := z_.ten; clear z_)
                      clear hv
                      go_simp
                      (first
                        | (go_at_call 23; (with_reducible refine (law_to p _).mono ?_); rintro e' w1 ⟨rfl, hb1⟩; exact ⟨_, rfl, rfl, Hv.out.call hb1 (by decide) (by decide)⟩)
                        | (go_at_call 35; (with_reducible refine (then_all p.f p.k p.a0 p.a1 p.a2 p.a3 p.u p.l0 p.l1 p.l2 tp tp 0 0 0 0 0 0 0 0 _ OP.out (okStay tp) _ _ l2.out).mono ?_); rintro e' w1 ⟨rfl, hb1⟩; exact ⟨_, rfl, rfl, Hv.out.call hb1 (by decide) (by decide)⟩)
                        | (with_reducible refine ⟨rfl, ?_⟩; first | (with_reducible exact AC.pure Hv.out (by decide) (by decide)) | (with_reducible exact AC.store10 Hv.out (hd.get 7 (List.mem_cons_self ..) (by kernel_rfl)) hk (by decide))))
                    refine hK _ _ _ ?_
                    clear hK K)
                 | (with_reducible refine H1.any IsPtr ⟨_, IsPtr.mk 0⟩ ?_ ?_
                    · intro σ wv hk hd hv
                      have Hv := Lib.hid hv
                      go_simp
                      exact ⟨IsPtr.mk _, Hv.out.alloc hk (by decide)⟩
                    intro v_ hv_
                    obtain ⟨X, rfl⟩ := hv_
                    refine hK _ _ _ ?_
                    clear hK K)
                 | (with_reducible apply Sk.of
                    · (intro σ wv hk hv; exact hv.pure (by decide) (by decide))
                    refine hK _ _ _ ?_
                    clear hK K))
            refine nil_gen ?_
            intro σ wn hσ hT hq
            obtain ⟨hbn, hd⟩ := hq.done hσ (by decide) (hT _ (List.mem_cons_self ..))
            clear hσ hT hq
            have hp := Hhp.out.below hbn
            have hq := Hhq.out.below hbn
            have hs := Hhs.out.below hbn
            have ha := Hha.out.below hbn
            have hbb := Hhbb.out.below hbn
            have hx := Hhx.out.below hbn
            have hy := Hhy.out.below hbn
            have hu := Hhu.out.below hbn
            have hv := Hhv.out.below hbn
            have hc := Hhc.out.below hbn
            replace hz := below_of hz hbn
            clear Hhp Hhq Hhs Hha Hhbb Hhx Hhy Hhu Hhv Hhc hbn wc
            obtain ⟨wc, rfl⟩ : ∃ wc, wc = wn := ⟨_, rfl⟩
            go_upto_region 16 with (fail)
            have Hhp := Lib.hid hp
            have Hhq := Lib.hid hq
            have Hhs := Lib.hid hs
            have Hha := Lib.hid ha
            have Hhbb := Lib.hid hbb
            have Hhx := Lib.hid hx
            have Hhy := Lib.hid hy
            have Hhu := Lib.hid hu
            have Hhv := Lib.hid hv
            have Hhc := Lib.hid hc
            have Hhd := Lib.hid hd
            clear hp hq hs ha hbb hx hy hu hv hc hd
            refine region_class (fun w => Below wc.heap.size wc w) (by kernel_rfl) (by kernel_rfl) ((Below.refl _ _).drew) ?_
            repeat
              (refine step_class (fun K hK => ?_)
               go_simp
               first
                 | (refine hK _ ?_; clear hK K)
                 | (with_reducible apply Hq.of
                    · intro wv hv
                      have Hv := Lib.hid hv
                      have qp := Hhp.out.below hv
                      obtain ⟨p_0, p_1, p_2, p_3, p_4, p_5, p_6, p_7, p_8, p_9, p_f⟩ := qp.ten
                      clear qp
                      have qc := Hhc.out.below hv
                      obtain ⟨c_0, c_1, c_2, c_3, c_4, c_5, c_6, c_7, c_8, c_9, c_f⟩ := qc.ten
                      clear qc
                      have qd := Hhd.out.below hv
                      obtain ⟨d_0, d_1, d_2, d_3, d_4, d_5, d_6, d_7, d_8, d_9, d_f⟩ := qd.ten
                      clear qd
                      clear hv
                      go_simp
                      (first
                        | (with_reducible exact rfl)
                        | (go_at_call 13; (with_reducible refine (fromP p _).mono ?_); rintro e' w1 ⟨rfl, hb1⟩; exact ⟨rfl, below_of Hv.out hb1⟩))
                    refine hK _ ?_
                    clear hK K))
            refine nil_class ?_
            intro wn hbn
            have hp := Hhp.out.below hbn
            have hq := Hhq.out.below hbn
            have hs := Hhs.out.below hbn
            have ha := Hha.out.below hbn
            have hbb := Hhbb.out.below hbn
            have hx := Hhx.out.below hbn
            have hy := Hhy.out.below hbn
            have hu := Hhu.out.below hbn
            have hv := Hhv.out.below hbn
            have hc := Hhc.out.below hbn
            have hd := Hhd.out.below hbn
            replace hz := below_of hz hbn
            clear Hhp Hhq Hhs Hha Hhbb Hhx Hhy Hhu Hhv Hhc Hhd hbn wc
            obtain ⟨wc, rfl⟩ : ∃ wc, wc = wn := ⟨_, rfl⟩
            go_wp2
            go_ret
            exact ⟨rfl, hz⟩
          · have hcb : (cp != 0) = true := by simp [hcp]
            clear hcp
            obtain ⟨p_0, p_1, p_2, p_3, p_4, p_5, p_6, p_7, p_8, p_9, p_f⟩ := hp.ten
            go_wp2_with (first | (go_at_call 23; (with_reducible refine (law_to p _).mono ?_); rintro e' w1 ⟨rfl, hb1⟩; replace hp := hp.below hb1; replace hq := hq.below hb1; replace hs := hs.below hb1; replace ha := ha.below hb1; replace hbb := hbb.below hb1; replace hx := hx.below hb1; replace hy := hy.below hb1; replace hz := below_of hz hb1; clear hb1) | (go_at_call 22; (with_reducible refine (check_all p.f p.k p.a0 p.a1 p.a2 p.a3 p.u p.l0 p.l1 p.l2 _ _ HC.out).mono ?_); rintro e' w1 ⟨rfl, hb1⟩; replace hp := hp.below hb1; replace hq := hq.below hb1; replace hs := hs.below hb1; replace ha := ha.below hb1; replace hbb := hbb.below hb1; replace hx := hx.below hb1; replace hy := hy.below hb1; replace hz := below_of hz hb1; clear hb1))
            go_ret
            exact ⟨rfl, hz⟩
        · have hhb : (h == 0) = false := by simp [hh]
          clear hh
          go_upto_region 10 with (fail)
          by_cases hcp : cp = 0
          · subst hcp
            obtain ⟨p_0, p_1, p_2, p_3, p_4, p_5, p_6, p_7, p_8, p_9, p_f⟩ := hp.ten
            go_upto_region 12 with (first | (go_at_call 23; (with_reducible refine (law_to p _).mono ?_); rintro e' w1 ⟨rfl, hb1⟩; replace hp := hp.below hb1; replace hq := hq.below hb1; replace hs := hs.below hb1; replace ha := ha.below hb1; replace hbb := hbb.below hb1; replace hx := hx.below hb1; replace hy := hy.below hb1; replace hz := below_of hz hb1; clear hb1) | (go_at_call 22; (with_reducible refine (check_all p.f p.k p.a0 p.a1 p.a2 p.a3 p.u p.l0 p.l1 p.l2 _ _ HC.out).mono ?_); rintro e' w1 ⟨rfl, hb1⟩; replace hp := hp.below hb1; replace hq := hq.below hb1; replace hs := hs.below hb1; replace ha := ha.below hb1; replace hbb := hbb.below hb1; replace hx := hx.below hb1; replace hy := hy.below hb1; replace hz := below_of hz hb1; clear hb1))
            clear p_0 p_1 p_2 p_3 p_4 p_5 p_6 p_7 p_8 p_9 p_f
            obtain ⟨wc, rfl⟩ : ∃ wc, wc = w1 := ⟨_, rfl⟩
            have g := good_iff.1 HC.out
            have i1 := Lib.hid (show inB p.f = true by have := g.f0; have := g.f3; simp [inB]; omega)
            have i2 := Lib.hid (show inB tp = true by rw [← HTP.out, g.to]; have := g.k0; have := g.u0; have := g.u3; simp [inB]; omega)
            have l1 := Lib.hid (show thenR ⟨p.f, p.f, 0, 0, 0, 0, 0, 0, 0, 0⟩ ⟨p.f, p.k, p.a0, p.a1, p.a2, p.a3, p.u, p.l0, p.l1, p.l2⟩ = (p, 0) from (stay_law HC.out).1)
            have hl2 := (stay_law HC.out).2
            rw [HTP.out] at hl2
            have l2 := Lib.hid (show thenR ⟨p.f, p.k, p.a0, p.a1, p.a2, p.a3, p.u, p.l0, p.l1, p.l2⟩ ⟨tp, tp, 0, 0, 0, 0, 0, 0, 0, 0⟩ = (p, 0) from hl2)
            have bf : U32 p.f := by have := g.f0; have := g.f3; unfold U32; omega
            clear hl2 g bf
            obtain ⟨p_0, p_1, p_2, p_3, p_4, p_5, p_6, p_7, p_8, p_9, p_f⟩ := hp.ten
            go_upto_region 13 with (first | (go_at_call 11; (with_reducible refine (stay_yes p.f i1.out _).mono ?_); rintro e' w1 ⟨rfl, hb1⟩; replace hp := hp.below hb1; replace hq := hq.below hb1; replace hs := hs.below hb1; replace ha := ha.below hb1; replace hbb := hbb.below hb1; replace hx := hx.below hb1; replace hy := hy.below hb1; replace hz := below_of hz hb1; clear hb1))
            clear p_0 p_1 p_2 p_3 p_4 p_5 p_6 p_7 p_8 p_9 p_f
            have hu := Row.new w1 #[.int .i64 p.f, .int .i64 p.f, .int .u32 0, .int .u32 0, .int .u32 0, .int .u32 0, .int .i64 0, .int .u32 0, .int .u32 0, .int .u32 0] 26
            replace hp := hp.alloc (.cells #[.int .i64 p.f, .int .i64 p.f, .int .u32 0, .int .u32 0, .int .u32 0, .int .u32 0, .int .i64 0, .int .u32 0, .int .u32 0, .int .u32 0] 26)
            replace hq := hq.alloc (.cells #[.int .i64 p.f, .int .i64 p.f, .int .u32 0, .int .u32 0, .int .u32 0, .int .u32 0, .int .i64 0, .int .u32 0, .int .u32 0, .int .u32 0] 26)
            replace hs := hs.alloc (.cells #[.int .i64 p.f, .int .i64 p.f, .int .u32 0, .int .u32 0, .int .u32 0, .int .u32 0, .int .i64 0, .int .u32 0, .int .u32 0, .int .u32 0] 26)
            replace ha := ha.alloc (.cells #[.int .i64 p.f, .int .i64 p.f, .int .u32 0, .int .u32 0, .int .u32 0, .int .u32 0, .int .i64 0, .int .u32 0, .int .u32 0, .int .u32 0] 26)
            replace hbb := hbb.alloc (.cells #[.int .i64 p.f, .int .i64 p.f, .int .u32 0, .int .u32 0, .int .u32 0, .int .u32 0, .int .i64 0, .int .u32 0, .int .u32 0, .int .u32 0] 26)
            replace hx := hx.alloc (.cells #[.int .i64 p.f, .int .i64 p.f, .int .u32 0, .int .u32 0, .int .u32 0, .int .u32 0, .int .i64 0, .int .u32 0, .int .u32 0, .int .u32 0] 26)
            replace hy := hy.alloc (.cells #[.int .i64 p.f, .int .i64 p.f, .int .u32 0, .int .u32 0, .int .u32 0, .int .u32 0, .int .i64 0, .int .u32 0, .int .u32 0, .int .u32 0] 26)
            replace hz := below_of hz (below_new w1 (.cells #[.int .i64 p.f, .int .i64 p.f, .int .u32 0, .int .u32 0, .int .u32 0, .int .u32 0, .int .i64 0, .int .u32 0, .int .u32 0, .int .u32 0] 26))
            generalize w1.heap.size = Xu at hu ⊢
            generalize w1.alloc (.cells #[.int .i64 p.f, .int .i64 p.f, .int .u32 0, .int .u32 0, .int .u32 0, .int .u32 0, .int .i64 0, .int .u32 0, .int .u32 0, .int .u32 0] 26) = wd at hu hp hq hs ha hbb hx hy hz ⊢
            obtain ⟨wc, rfl⟩ : ∃ wc, wc = wd := ⟨_, rfl⟩
            obtain ⟨p_0, p_1, p_2, p_3, p_4, p_5, p_6, p_7, p_8, p_9, p_f⟩ := hp.ten
            go_upto_region 14 with (first | (go_at_call 23; (with_reducible refine (law_to p _).mono ?_); rintro e' w1 ⟨rfl, hb1⟩; replace hp := hp.below hb1; replace hq := hq.below hb1; replace hs := hs.below hb1; replace ha := ha.below hb1; replace hbb := hbb.below hb1; replace hx := hx.below hb1; replace hy := hy.below hb1; replace hu := hu.below hb1; replace hz := below_of hz hb1; clear hb1) | (go_at_call 25; (with_reducible refine (to_all p.f p.k p.a0 p.a1 p.a2 p.a3 p.u p.l0 p.l1 p.l2 _ _ HTP.out).mono ?_); rintro e' w1 ⟨rfl, hb1⟩; replace hp := hp.below hb1; replace hq := hq.below hb1; replace hs := hs.below hb1; replace ha := ha.below hb1; replace hbb := hbb.below hb1; replace hx := hx.below hb1; replace hy := hy.below hb1; replace hu := hu.below hb1; replace hz := below_of hz hb1; clear hb1) | (go_at_call 11; (with_reducible refine (stay_yes tp i2.out _).mono ?_); rintro e' w1 ⟨rfl, hb1⟩; replace hp := hp.below hb1; replace hq := hq.below hb1; replace hs := hs.below hb1; replace ha := ha.below hb1; replace hbb := hbb.below hb1; replace hx := hx.below hb1; replace hy := hy.below hb1; replace hu := hu.below hb1; replace hz := below_of hz hb1; clear hb1))
            clear p_0 p_1 p_2 p_3 p_4 p_5 p_6 p_7 p_8 p_9 p_f
            have hv := Row.new w1 #[.int .i64 tp, .int .i64 tp, .int .u32 0, .int .u32 0, .int .u32 0, .int .u32 0, .int .i64 0, .int .u32 0, .int .u32 0, .int .u32 0] 26
            replace hp := hp.alloc (.cells #[.int .i64 tp, .int .i64 tp, .int .u32 0, .int .u32 0, .int .u32 0, .int .u32 0, .int .i64 0, .int .u32 0, .int .u32 0, .int .u32 0] 26)
            replace hq := hq.alloc (.cells #[.int .i64 tp, .int .i64 tp, .int .u32 0, .int .u32 0, .int .u32 0, .int .u32 0, .int .i64 0, .int .u32 0, .int .u32 0, .int .u32 0] 26)
            replace hs := hs.alloc (.cells #[.int .i64 tp, .int .i64 tp, .int .u32 0, .int .u32 0, .int .u32 0, .int .u32 0, .int .i64 0, .int .u32 0, .int .u32 0, .int .u32 0] 26)
            replace ha := ha.alloc (.cells #[.int .i64 tp, .int .i64 tp, .int .u32 0, .int .u32 0, .int .u32 0, .int .u32 0, .int .i64 0, .int .u32 0, .int .u32 0, .int .u32 0] 26)
            replace hbb := hbb.alloc (.cells #[.int .i64 tp, .int .i64 tp, .int .u32 0, .int .u32 0, .int .u32 0, .int .u32 0, .int .i64 0, .int .u32 0, .int .u32 0, .int .u32 0] 26)
            replace hx := hx.alloc (.cells #[.int .i64 tp, .int .i64 tp, .int .u32 0, .int .u32 0, .int .u32 0, .int .u32 0, .int .i64 0, .int .u32 0, .int .u32 0, .int .u32 0] 26)
            replace hy := hy.alloc (.cells #[.int .i64 tp, .int .i64 tp, .int .u32 0, .int .u32 0, .int .u32 0, .int .u32 0, .int .i64 0, .int .u32 0, .int .u32 0, .int .u32 0] 26)
            replace hu := hu.alloc (.cells #[.int .i64 tp, .int .i64 tp, .int .u32 0, .int .u32 0, .int .u32 0, .int .u32 0, .int .i64 0, .int .u32 0, .int .u32 0, .int .u32 0] 26)
            replace hz := below_of hz (below_new w1 (.cells #[.int .i64 tp, .int .i64 tp, .int .u32 0, .int .u32 0, .int .u32 0, .int .u32 0, .int .i64 0, .int .u32 0, .int .u32 0, .int .u32 0] 26))
            generalize w1.heap.size = Xv at hv ⊢
            generalize w1.alloc (.cells #[.int .i64 tp, .int .i64 tp, .int .u32 0, .int .u32 0, .int .u32 0, .int .u32 0, .int .i64 0, .int .u32 0, .int .u32 0, .int .u32 0] 26) = wd at hv hp hq hs ha hbb hx hy hu hz ⊢
            obtain ⟨wc, rfl⟩ : ∃ wc, wc = wd := ⟨_, rfl⟩
            have Hhp := Lib.hid hp
            have Hhq := Lib.hid hq
            have Hhs := Lib.hid hs
            have Hha := Lib.hid ha
            have Hhbb := Lib.hid hbb
            have Hhx := Lib.hid hx
            have Hhy := Lib.hid hy
            have Hhu := Lib.hid hu
            have Hhv := Lib.hid hv
            clear hp hq hs ha hbb hx hy hu hv
            refine region_gen (AC wc 7 8 #[.int .i64 0, .int .i64 0, .int .u32 0, .int .u32 0, .int .u32 0, .int .u32 0, .int .i64 0, .int .u32 0, .int .u32 0, .int .u32 0] #[.int .i64 p.f, .int .i64 p.k, .int .u32 p.a0, .int .u32 p.a1, .int .u32 p.a2, .int .u32 p.a3, .int .i64 p.u, .int .u32 p.l0, .int .u32 p.l1, .int .u32 p.l2] 26) (by kernel_rfl) (by kernel_rfl) (AC.start _ _ _ _ _ _) ?_
            repeat
              (refine step_gen (by decide) (by rfl) (fun K hK => ?_)
               go_simp
               first
                 | (with_reducible apply H1.one
                    · intro σ wv hk hd hv
                      have Hv := Lib.hid hv
                      have qp := Hhp.out.below hv.b
                      obtain ⟨p_0, p_1, p_2, p_3, p_4, p_5, p_6, p_7, p_8, p_9, p_f⟩ := qp.ten
                      clear qp
                      have qu := Hhu.out.below hv.b
                      obtain ⟨u_0, u_1, u_2, u_3, u_4, u_5, u_6, u_7, u_8, u_9, u_f⟩ := qu.ten
                      clear qu
                      try (have z_ := (hv.row (hd.get 7 (List.mem_cons_self ..) (by kernel_rfl)) hk).2; obtain ⟨x_0, x_1, x_2, x_3, x_4, x_5, x_6, x_7, x_8, x_9, x_f⟩ := z_.ten; clear z_)
                      clear hv
                      go_simp
                      (first
                        | (go_at_call 23; (with_reducible refine (law_to p _).mono ?_); rintro e' w1 ⟨rfl, hb1⟩; exact ⟨_, rfl, rfl, Hv.out.call hb1 (by decide) (by decide)⟩)
                        | (go_at_call 35; (with_reducible refine (then_all p.f p.f 0 0 0 0 0 0 0 0 p.f p.k p.a0 p.a1 p.a2 p.a3 p.u p.l0 p.l1 p.l2 _ (okStay p.f) OP.out _ _ l1.out).mono ?_); rintro e' w1 ⟨rfl, hb1⟩; exact ⟨_, rfl, rfl, Hv.out.call hb1 (by decide) (by decide)⟩)
                        | (with_reducible refine ⟨rfl, ?_⟩; first | (with_reducible exact AC.pure Hv.out (by decide) (by decide)) | (with_reducible exact AC.store10 Hv.out (hd.get 7 (List.mem_cons_self ..) (by kernel_rfl)) hk (by decide))))
                    refine hK _ _ _ ?_
                    clear hK K)
                 | (with_reducible refine H1.any IsPtr ⟨_, IsPtr.mk 0⟩ ?_ ?_
                    · intro σ wv hk hd hv
                      have Hv := Lib.hid hv
                      go_simp
                      exact ⟨IsPtr.mk _, Hv.out.alloc hk (by decide)⟩
                    intro v_ hv_
                    obtain ⟨X, rfl⟩ := hv_
                    refine hK _ _ _ ?_
                    clear hK K)
                 | (with_reducible apply Sk.of
                    · (intro σ wv hk hv; exact hv.pure (by decide) (by decide))
                    refine hK _ _ _ ?_
                    clear hK K))
            refine nil_gen ?_
            intro σ wn hσ hT hq
            obtain ⟨hbn, hc⟩ := hq.done hσ (by decide) (hT _ (List.mem_cons_self ..))
            clear hσ hT hq
            have hp := Hhp.out.below hbn
            have hq := Hhq.out.below hbn
            have hs := Hhs.out.below hbn
            have ha := Hha.out.below hbn
            have hbb := Hhbb.out.below hbn
            have hx := Hhx.out.below hbn
            have hy := Hhy.out.below hbn
            have hu := Hhu.out.below hbn
            have hv := Hhv.out.below hbn
            replace hz := below_of hz hbn
            clear Hhp Hhq Hhs Hha Hhbb Hhx Hhy Hhu Hhv hbn wc
            obtain ⟨wc, rfl⟩ : ∃ wc, wc = wn := ⟨_, rfl⟩
            go_upto_region 15 with (fail)
            have Hhp := Lib.hid hp
            have Hhq := Lib.hid hq
            have Hhs := Lib.hid hs
            have Hha := Lib.hid ha
            have Hhbb := Lib.hid hbb
            have Hhx := Lib.hid hx
            have Hhy := Lib.hid hy
            have Hhu := Lib.hid hu
            have Hhv := Lib.hid hv
            have Hhc := Lib.hid hc
            clear hp hq hs ha hbb hx hy hu hv hc
            refine region_gen (AC wc 7 8 #[.int .i64 0, .int .i64 0, .int .u32 0, .int .u32 0, .int .u32 0, .int .u32 0, .int .i64 0, .int .u32 0, .int .u32 0, .int .u32 0] #[.int .i64 p.f, .int .i64 p.k, .int .u32 p.a0, .int .u32 p.a1, .int .u32 p.a2, .int .u32 p.a3, .int .i64 p.u, .int .u32 p.l0, .int .u32 p.l1, .int .u32 p.l2] 26) (by kernel_rfl) (by kernel_rfl) (AC.start _ _ _ _ _ _) ?_
            repeat
              (refine step_gen (by decide) (by rfl) (fun K hK => ?_)
               go_simp
               first
                 | (with_reducible apply H1.one
                    · intro σ wv hk hd hv
                      have Hv := Lib.hid hv
                      have qp := Hhp.out.below hv.b
                      obtain ⟨p_0, p_1, p_2, p_3, p_4, p_5, p_6, p_7, p_8, p_9, p_f⟩ := qp.ten
                      clear qp
                      have qv := Hhv.out.below hv.b
                      obtain ⟨v_0, v_1, v_2, v_3, v_4, v_5, v_6, v_7, v_8, v_9, v_f⟩ := qv.ten
                      clear qv
                      try (have z_ := (hv.row (hd.get 7 (List.mem_cons_self ..) (by kernel_rfl)) hk).2; obtain ⟨x_0, x_1, x_2, x_3, x_4, x_5, x_6, x_7, x_8, x_9, x_f⟩ := z_.ten; clear z_)
                      clear hv
                      go_simp
                      (first
                        | (go_at_call 23; (with_reducible refine (law_to p _).mono ?_); rintro e' w1 ⟨rfl, hb1⟩; exact ⟨_, rfl, rfl, Hv.out.call hb1 (by decide) (by decide)⟩)
                        | (go_at_call 35; (with_reducible refine (then_all p.f p.k p.a0 p.a1 p.a2 p.a3 p.u p.l0 p.l1 p.l2 tp tp 0 0 0 0 0 0 0 0 _ OP.out (okStay tp) _ _ l2.out).mono ?_); rintro e' w1 ⟨rfl, hb1⟩; exact ⟨_, rfl, rfl, Hv.out.call hb1 (by decide) (by decide)⟩)
                        | (with_reducible refine ⟨rfl, ?_⟩; first | (with_reducible exact AC.pure Hv.out (by decide) (by decide)) | (with_reducible exact AC.store10 Hv.out (hd.get 7 (List.mem_cons_self ..) (by kernel_rfl)) hk (by decide))))
                    refine hK _ _ _ ?_
                    clear hK K)
                 | (with_reducible refine H1.any IsPtr ⟨_, IsPtr.mk 0⟩ ?_ ?_
                    · intro σ wv hk hd hv
                      have Hv := Lib.hid hv
                      go_simp
                      exact ⟨IsPtr.mk _, Hv.out.alloc hk (by decide)⟩
                    intro v_ hv_
                    obtain ⟨X, rfl⟩ := hv_
                    refine hK _ _ _ ?_
                    clear hK K)
                 | (with_reducible apply Sk.of
                    · (intro σ wv hk hv; exact hv.pure (by decide) (by decide))
                    refine hK _ _ _ ?_
                    clear hK K))
            refine nil_gen ?_
            intro σ wn hσ hT hq
            obtain ⟨hbn, hd⟩ := hq.done hσ (by decide) (hT _ (List.mem_cons_self ..))
            clear hσ hT hq
            have hp := Hhp.out.below hbn
            have hq := Hhq.out.below hbn
            have hs := Hhs.out.below hbn
            have ha := Hha.out.below hbn
            have hbb := Hhbb.out.below hbn
            have hx := Hhx.out.below hbn
            have hy := Hhy.out.below hbn
            have hu := Hhu.out.below hbn
            have hv := Hhv.out.below hbn
            have hc := Hhc.out.below hbn
            replace hz := below_of hz hbn
            clear Hhp Hhq Hhs Hha Hhbb Hhx Hhy Hhu Hhv Hhc hbn wc
            obtain ⟨wc, rfl⟩ : ∃ wc, wc = wn := ⟨_, rfl⟩
            go_upto_region 16 with (fail)
            have Hhp := Lib.hid hp
            have Hhq := Lib.hid hq
            have Hhs := Lib.hid hs
            have Hha := Lib.hid ha
            have Hhbb := Lib.hid hbb
            have Hhx := Lib.hid hx
            have Hhy := Lib.hid hy
            have Hhu := Lib.hid hu
            have Hhv := Lib.hid hv
            have Hhc := Lib.hid hc
            have Hhd := Lib.hid hd
            clear hp hq hs ha hbb hx hy hu hv hc hd
            refine region_class (fun w => Below wc.heap.size wc w) (by kernel_rfl) (by kernel_rfl) ((Below.refl _ _).drew) ?_
            repeat
              (refine step_class (fun K hK => ?_)
               go_simp
               first
                 | (refine hK _ ?_; clear hK K)
                 | (with_reducible apply Hq.of
                    · intro wv hv
                      have Hv := Lib.hid hv
                      have qp := Hhp.out.below hv
                      obtain ⟨p_0, p_1, p_2, p_3, p_4, p_5, p_6, p_7, p_8, p_9, p_f⟩ := qp.ten
                      clear qp
                      have qc := Hhc.out.below hv
                      obtain ⟨c_0, c_1, c_2, c_3, c_4, c_5, c_6, c_7, c_8, c_9, c_f⟩ := qc.ten
                      clear qc
                      have qd := Hhd.out.below hv
                      obtain ⟨d_0, d_1, d_2, d_3, d_4, d_5, d_6, d_7, d_8, d_9, d_f⟩ := qd.ten
                      clear qd
                      clear hv
                      go_simp
                      (first
                        | (with_reducible exact rfl)
                        | (go_at_call 13; (with_reducible refine (fromP p _).mono ?_); rintro e' w1 ⟨rfl, hb1⟩; exact ⟨rfl, below_of Hv.out hb1⟩))
                    refine hK _ ?_
                    clear hK K))
            refine nil_class ?_
            intro wn hbn
            have hp := Hhp.out.below hbn
            have hq := Hhq.out.below hbn
            have hs := Hhs.out.below hbn
            have ha := Hha.out.below hbn
            have hbb := Hhbb.out.below hbn
            have hx := Hhx.out.below hbn
            have hy := Hhy.out.below hbn
            have hu := Hhu.out.below hbn
            have hv := Hhv.out.below hbn
            have hc := Hhc.out.below hbn
            have hd := Hhd.out.below hbn
            replace hz := below_of hz hbn
            clear Hhp Hhq Hhs Hha Hhbb Hhx Hhy Hhu Hhv Hhc Hhd hbn wc
            obtain ⟨wc, rfl⟩ : ∃ wc, wc = wn := ⟨_, rfl⟩
            go_wp2
            go_ret
            exact ⟨rfl, hz⟩
          · have hcb : (cp != 0) = true := by simp [hcp]
            clear hcp
            obtain ⟨p_0, p_1, p_2, p_3, p_4, p_5, p_6, p_7, p_8, p_9, p_f⟩ := hp.ten
            go_wp2_with (first | (go_at_call 23; (with_reducible refine (law_to p _).mono ?_); rintro e' w1 ⟨rfl, hb1⟩; replace hp := hp.below hb1; replace hq := hq.below hb1; replace hs := hs.below hb1; replace ha := ha.below hb1; replace hbb := hbb.below hb1; replace hx := hx.below hb1; replace hy := hy.below hb1; replace hz := below_of hz hb1; clear hb1) | (go_at_call 22; (with_reducible refine (check_all p.f p.k p.a0 p.a1 p.a2 p.a3 p.u p.l0 p.l1 p.l2 _ _ HC.out).mono ?_); rintro e' w1 ⟨rfl, hb1⟩; replace hp := hp.below hb1; replace hq := hq.below hb1; replace hs := hs.below hb1; replace ha := ha.below hb1; replace hbb := hbb.below hb1; replace hx := hx.below hb1; replace hy := hy.below hb1; replace hz := below_of hz hb1; clear hb1))
            go_ret
            exact ⟨rfl, hz⟩
      · have hgb : (g == 0) = false := by simp [hg]
        clear hg
        go_upto_region 10 with (fail)
        by_cases hcp : cp = 0
        · subst hcp
          obtain ⟨p_0, p_1, p_2, p_3, p_4, p_5, p_6, p_7, p_8, p_9, p_f⟩ := hp.ten
          go_upto_region 12 with (first | (go_at_call 23; (with_reducible refine (law_to p _).mono ?_); rintro e' w1 ⟨rfl, hb1⟩; replace hp := hp.below hb1; replace hq := hq.below hb1; replace hs := hs.below hb1; replace ha := ha.below hb1; replace hbb := hbb.below hb1; replace hx := hx.below hb1; replace hy := hy.below hb1; replace hz := below_of hz hb1; clear hb1) | (go_at_call 22; (with_reducible refine (check_all p.f p.k p.a0 p.a1 p.a2 p.a3 p.u p.l0 p.l1 p.l2 _ _ HC.out).mono ?_); rintro e' w1 ⟨rfl, hb1⟩; replace hp := hp.below hb1; replace hq := hq.below hb1; replace hs := hs.below hb1; replace ha := ha.below hb1; replace hbb := hbb.below hb1; replace hx := hx.below hb1; replace hy := hy.below hb1; replace hz := below_of hz hb1; clear hb1))
          clear p_0 p_1 p_2 p_3 p_4 p_5 p_6 p_7 p_8 p_9 p_f
          obtain ⟨wc, rfl⟩ : ∃ wc, wc = w1 := ⟨_, rfl⟩
          have g := good_iff.1 HC.out
          have i1 := Lib.hid (show inB p.f = true by have := g.f0; have := g.f3; simp [inB]; omega)
          have i2 := Lib.hid (show inB tp = true by rw [← HTP.out, g.to]; have := g.k0; have := g.u0; have := g.u3; simp [inB]; omega)
          have l1 := Lib.hid (show thenR ⟨p.f, p.f, 0, 0, 0, 0, 0, 0, 0, 0⟩ ⟨p.f, p.k, p.a0, p.a1, p.a2, p.a3, p.u, p.l0, p.l1, p.l2⟩ = (p, 0) from (stay_law HC.out).1)
          have hl2 := (stay_law HC.out).2
          rw [HTP.out] at hl2
          have l2 := Lib.hid (show thenR ⟨p.f, p.k, p.a0, p.a1, p.a2, p.a3, p.u, p.l0, p.l1, p.l2⟩ ⟨tp, tp, 0, 0, 0, 0, 0, 0, 0, 0⟩ = (p, 0) from hl2)
          have bf : U32 p.f := by have := g.f0; have := g.f3; unfold U32; omega
          clear hl2 g bf
          obtain ⟨p_0, p_1, p_2, p_3, p_4, p_5, p_6, p_7, p_8, p_9, p_f⟩ := hp.ten
          go_upto_region 13 with (first | (go_at_call 11; (with_reducible refine (stay_yes p.f i1.out _).mono ?_); rintro e' w1 ⟨rfl, hb1⟩; replace hp := hp.below hb1; replace hq := hq.below hb1; replace hs := hs.below hb1; replace ha := ha.below hb1; replace hbb := hbb.below hb1; replace hx := hx.below hb1; replace hy := hy.below hb1; replace hz := below_of hz hb1; clear hb1))
          clear p_0 p_1 p_2 p_3 p_4 p_5 p_6 p_7 p_8 p_9 p_f
          have hu := Row.new w1 #[.int .i64 p.f, .int .i64 p.f, .int .u32 0, .int .u32 0, .int .u32 0, .int .u32 0, .int .i64 0, .int .u32 0, .int .u32 0, .int .u32 0] 26
          replace hp := hp.alloc (.cells #[.int .i64 p.f, .int .i64 p.f, .int .u32 0, .int .u32 0, .int .u32 0, .int .u32 0, .int .i64 0, .int .u32 0, .int .u32 0, .int .u32 0] 26)
          replace hq := hq.alloc (.cells #[.int .i64 p.f, .int .i64 p.f, .int .u32 0, .int .u32 0, .int .u32 0, .int .u32 0, .int .i64 0, .int .u32 0, .int .u32 0, .int .u32 0] 26)
          replace hs := hs.alloc (.cells #[.int .i64 p.f, .int .i64 p.f, .int .u32 0, .int .u32 0, .int .u32 0, .int .u32 0, .int .i64 0, .int .u32 0, .int .u32 0, .int .u32 0] 26)
          replace ha := ha.alloc (.cells #[.int .i64 p.f, .int .i64 p.f, .int .u32 0, .int .u32 0, .int .u32 0, .int .u32 0, .int .i64 0, .int .u32 0, .int .u32 0, .int .u32 0] 26)
          replace hbb := hbb.alloc (.cells #[.int .i64 p.f, .int .i64 p.f, .int .u32 0, .int .u32 0, .int .u32 0, .int .u32 0, .int .i64 0, .int .u32 0, .int .u32 0, .int .u32 0] 26)
          replace hx := hx.alloc (.cells #[.int .i64 p.f, .int .i64 p.f, .int .u32 0, .int .u32 0, .int .u32 0, .int .u32 0, .int .i64 0, .int .u32 0, .int .u32 0, .int .u32 0] 26)
          replace hy := hy.alloc (.cells #[.int .i64 p.f, .int .i64 p.f, .int .u32 0, .int .u32 0, .int .u32 0, .int .u32 0, .int .i64 0, .int .u32 0, .int .u32 0, .int .u32 0] 26)
          replace hz := below_of hz (below_new w1 (.cells #[.int .i64 p.f, .int .i64 p.f, .int .u32 0, .int .u32 0, .int .u32 0, .int .u32 0, .int .i64 0, .int .u32 0, .int .u32 0, .int .u32 0] 26))
          generalize w1.heap.size = Xu at hu ⊢
          generalize w1.alloc (.cells #[.int .i64 p.f, .int .i64 p.f, .int .u32 0, .int .u32 0, .int .u32 0, .int .u32 0, .int .i64 0, .int .u32 0, .int .u32 0, .int .u32 0] 26) = wd at hu hp hq hs ha hbb hx hy hz ⊢
          obtain ⟨wc, rfl⟩ : ∃ wc, wc = wd := ⟨_, rfl⟩
          obtain ⟨p_0, p_1, p_2, p_3, p_4, p_5, p_6, p_7, p_8, p_9, p_f⟩ := hp.ten
          go_upto_region 14 with (first | (go_at_call 23; (with_reducible refine (law_to p _).mono ?_); rintro e' w1 ⟨rfl, hb1⟩; replace hp := hp.below hb1; replace hq := hq.below hb1; replace hs := hs.below hb1; replace ha := ha.below hb1; replace hbb := hbb.below hb1; replace hx := hx.below hb1; replace hy := hy.below hb1; replace hu := hu.below hb1; replace hz := below_of hz hb1; clear hb1) | (go_at_call 25; (with_reducible refine (to_all p.f p.k p.a0 p.a1 p.a2 p.a3 p.u p.l0 p.l1 p.l2 _ _ HTP.out).mono ?_); rintro e' w1 ⟨rfl, hb1⟩; replace hp := hp.below hb1; replace hq := hq.below hb1; replace hs := hs.below hb1; replace ha := ha.below hb1; replace hbb := hbb.below hb1; replace hx := hx.below hb1; replace hy := hy.below hb1; replace hu := hu.below hb1; replace hz := below_of hz hb1; clear hb1) | (go_at_call 11; (with_reducible refine (stay_yes tp i2.out _).mono ?_); rintro e' w1 ⟨rfl, hb1⟩; replace hp := hp.below hb1; replace hq := hq.below hb1; replace hs := hs.below hb1; replace ha := ha.below hb1; replace hbb := hbb.below hb1; replace hx := hx.below hb1; replace hy := hy.below hb1; replace hu := hu.below hb1; replace hz := below_of hz hb1; clear hb1))
          clear p_0 p_1 p_2 p_3 p_4 p_5 p_6 p_7 p_8 p_9 p_f
          have hv := Row.new w1 #[.int .i64 tp, .int .i64 tp, .int .u32 0, .int .u32 0, .int .u32 0, .int .u32 0, .int .i64 0, .int .u32 0, .int .u32 0, .int .u32 0] 26
          replace hp := hp.alloc (.cells #[.int .i64 tp, .int .i64 tp, .int .u32 0, .int .u32 0, .int .u32 0, .int .u32 0, .int .i64 0, .int .u32 0, .int .u32 0, .int .u32 0] 26)
          replace hq := hq.alloc (.cells #[.int .i64 tp, .int .i64 tp, .int .u32 0, .int .u32 0, .int .u32 0, .int .u32 0, .int .i64 0, .int .u32 0, .int .u32 0, .int .u32 0] 26)
          replace hs := hs.alloc (.cells #[.int .i64 tp, .int .i64 tp, .int .u32 0, .int .u32 0, .int .u32 0, .int .u32 0, .int .i64 0, .int .u32 0, .int .u32 0, .int .u32 0] 26)
          replace ha := ha.alloc (.cells #[.int .i64 tp, .int .i64 tp, .int .u32 0, .int .u32 0, .int .u32 0, .int .u32 0, .int .i64 0, .int .u32 0, .int .u32 0, .int .u32 0] 26)
          replace hbb := hbb.alloc (.cells #[.int .i64 tp, .int .i64 tp, .int .u32 0, .int .u32 0, .int .u32 0, .int .u32 0, .int .i64 0, .int .u32 0, .int .u32 0, .int .u32 0] 26)
          replace hx := hx.alloc (.cells #[.int .i64 tp, .int .i64 tp, .int .u32 0, .int .u32 0, .int .u32 0, .int .u32 0, .int .i64 0, .int .u32 0, .int .u32 0, .int .u32 0] 26)
          replace hy := hy.alloc (.cells #[.int .i64 tp, .int .i64 tp, .int .u32 0, .int .u32 0, .int .u32 0, .int .u32 0, .int .i64 0, .int .u32 0, .int .u32 0, .int .u32 0] 26)
          replace hu := hu.alloc (.cells #[.int .i64 tp, .int .i64 tp, .int .u32 0, .int .u32 0, .int .u32 0, .int .u32 0, .int .i64 0, .int .u32 0, .int .u32 0, .int .u32 0] 26)
          replace hz := below_of hz (below_new w1 (.cells #[.int .i64 tp, .int .i64 tp, .int .u32 0, .int .u32 0, .int .u32 0, .int .u32 0, .int .i64 0, .int .u32 0, .int .u32 0, .int .u32 0] 26))
          generalize w1.heap.size = Xv at hv ⊢
          generalize w1.alloc (.cells #[.int .i64 tp, .int .i64 tp, .int .u32 0, .int .u32 0, .int .u32 0, .int .u32 0, .int .i64 0, .int .u32 0, .int .u32 0, .int .u32 0] 26) = wd at hv hp hq hs ha hbb hx hy hu hz ⊢
          obtain ⟨wc, rfl⟩ : ∃ wc, wc = wd := ⟨_, rfl⟩
          have Hhp := Lib.hid hp
          have Hhq := Lib.hid hq
          have Hhs := Lib.hid hs
          have Hha := Lib.hid ha
          have Hhbb := Lib.hid hbb
          have Hhx := Lib.hid hx
          have Hhy := Lib.hid hy
          have Hhu := Lib.hid hu
          have Hhv := Lib.hid hv
          clear hp hq hs ha hbb hx hy hu hv
          refine region_gen (AC wc 7 8 #[.int .i64 0, .int .i64 0, .int .u32 0, .int .u32 0, .int .u32 0, .int .u32 0, .int .i64 0, .int .u32 0, .int .u32 0, .int .u32 0] #[.int .i64 p.f, .int .i64 p.k, .int .u32 p.a0, .int .u32 p.a1, .int .u32 p.a2, .int .u32 p.a3, .int .i64 p.u, .int .u32 p.l0, .int .u32 p.l1, .int .u32 p.l2] 26) (by kernel_rfl) (by kernel_rfl) (AC.start _ _ _ _ _ _) ?_
          repeat
            (refine step_gen (by decide) (by rfl) (fun K hK => ?_)
             go_simp
             first
               | (with_reducible apply H1.one
                  · intro σ wv hk hd hv
                    have Hv := Lib.hid hv
                    have qp := Hhp.out.below hv.b
                    obtain ⟨p_0, p_1, p_2, p_3, p_4, p_5, p_6, p_7, p_8, p_9, p_f⟩ := qp.ten
                    clear qp
                    have qu := Hhu.out.below hv.b
                    obtain ⟨u_0, u_1, u_2, u_3, u_4, u_5, u_6, u_7, u_8, u_9, u_f⟩ := qu.ten
                    clear qu
                    try (have z_ := (hv.row (hd.get 7 (List.mem_cons_self ..) (by kernel_rfl)) hk).2; obtain ⟨x_0, x_1, x_2, x_3, x_4, x_5, x_6, x_7, x_8, x_9, x_f⟩ := z_.ten; clear z_)
                    clear hv
                    go_simp
                    (first
                      | (go_at_call 23; (with_reducible refine (law_to p _).mono ?_); rintro e' w1 ⟨rfl, hb1⟩; exact ⟨_, rfl, rfl, Hv.out.call hb1 (by decide) (by decide)⟩)
                      | (go_at_call 35; (with_reducible refine (then_all p.f p.f 0 0 0 0 0 0 0 0 p.f p.k p.a0 p.a1 p.a2 p.a3 p.u p.l0 p.l1 p.l2 _ (okStay p.f) OP.out _ _ l1.out).mono ?_); rintro e' w1 ⟨rfl, hb1⟩; exact ⟨_, rfl, rfl, Hv.out.call hb1 (by decide) (by decide)⟩)
                      | (with_reducible refine ⟨rfl, ?_⟩; first | (with_reducible exact AC.pure Hv.out (by decide) (by decide)) | (with_reducible exact AC.store10 Hv.out (hd.get 7 (List.mem_cons_self ..) (by kernel_rfl)) hk (by decide))))
                  refine hK _ _ _ ?_
                  clear hK K)
               | (with_reducible refine H1.any IsPtr ⟨_, IsPtr.mk 0⟩ ?_ ?_
                  · intro σ wv hk hd hv
                    have Hv := Lib.hid hv
                    go_simp
                    exact ⟨IsPtr.mk _, Hv.out.alloc hk (by decide)⟩
                  intro v_ hv_
                  obtain ⟨X, rfl⟩ := hv_
                  refine hK _ _ _ ?_
                  clear hK K)
               | (with_reducible apply Sk.of
                  · (intro σ wv hk hv; exact hv.pure (by decide) (by decide))
                  refine hK _ _ _ ?_
                  clear hK K))
          refine nil_gen ?_
          intro σ wn hσ hT hq
          obtain ⟨hbn, hc⟩ := hq.done hσ (by decide) (hT _ (List.mem_cons_self ..))
          clear hσ hT hq
          have hp := Hhp.out.below hbn
          have hq := Hhq.out.below hbn
          have hs := Hhs.out.below hbn
          have ha := Hha.out.below hbn
          have hbb := Hhbb.out.below hbn
          have hx := Hhx.out.below hbn
          have hy := Hhy.out.below hbn
          have hu := Hhu.out.below hbn
          have hv := Hhv.out.below hbn
          replace hz := below_of hz hbn
          clear Hhp Hhq Hhs Hha Hhbb Hhx Hhy Hhu Hhv hbn wc
          obtain ⟨wc, rfl⟩ : ∃ wc, wc = wn := ⟨_, rfl⟩
          go_upto_region 15 with (fail)
          have Hhp := Lib.hid hp
          have Hhq := Lib.hid hq
          have Hhs := Lib.hid hs
          have Hha := Lib.hid ha
          have Hhbb := Lib.hid hbb
          have Hhx := Lib.hid hx
          have Hhy := Lib.hid hy
          have Hhu := Lib.hid hu
          have Hhv := Lib.hid hv
          have Hhc := Lib.hid hc
          clear hp hq hs ha hbb hx hy hu hv hc
          refine region_gen (AC wc 7 8 #[.int .i64 0, .int .i64 0, .int .u32 0, .int .u32 0, .int .u32 0, .int .u32 0, .int .i64 0, .int .u32 0, .int .u32 0, .int .u32 0] #[.int .i64 p.f, .int .i64 p.k, .int .u32 p.a0, .int .u32 p.a1, .int .u32 p.a2, .int .u32 p.a3, .int .i64 p.u, .int .u32 p.l0, .int .u32 p.l1, .int .u32 p.l2] 26) (by kernel_rfl) (by kernel_rfl) (AC.start _ _ _ _ _ _) ?_
          repeat
            (refine step_gen (by decide) (by rfl) (fun K hK => ?_)
             go_simp
             first
               | (with_reducible apply H1.one
                  · intro σ wv hk hd hv
                    have Hv := Lib.hid hv
                    have qp := Hhp.out.below hv.b
                    obtain ⟨p_0, p_1, p_2, p_3, p_4, p_5, p_6, p_7, p_8, p_9, p_f⟩ := qp.ten
                    clear qp
                    have qv := Hhv.out.below hv.b
                    obtain ⟨v_0, v_1, v_2, v_3, v_4, v_5, v_6, v_7, v_8, v_9, v_f⟩ := qv.ten
                    clear qv
                    try (have z_ := (hv.row (hd.get 7 (List.mem_cons_self ..) (by kernel_rfl)) hk).2; obtain ⟨x_0, x_1, x_2, x_3, x_4, x_5, x_6, x_7, x_8, x_9, x_f⟩ := z_.ten; clear z_)
                    clear hv
                    go_simp
                    (first
                      | (go_at_call 23; (with_reducible refine (law_to p _).mono ?_); rintro e' w1 ⟨rfl, hb1⟩; exact ⟨_, rfl, rfl, Hv.out.call hb1 (by decide) (by decide)⟩)
                      | (go_at_call 35; (with_reducible refine (then_all p.f p.k p.a0 p.a1 p.a2 p.a3 p.u p.l0 p.l1 p.l2 tp tp 0 0 0 0 0 0 0 0 _ OP.out (okStay tp) _ _ l2.out).mono ?_); rintro e' w1 ⟨rfl, hb1⟩; exact ⟨_, rfl, rfl, Hv.out.call hb1 (by decide) (by decide)⟩)
                      | (with_reducible refine ⟨rfl, ?_⟩; first | (with_reducible exact AC.pure Hv.out (by decide) (by decide)) | (with_reducible exact AC.store10 Hv.out (hd.get 7 (List.mem_cons_self ..) (by kernel_rfl)) hk (by decide))))
                  refine hK _ _ _ ?_
                  clear hK K)
               | (with_reducible refine H1.any IsPtr ⟨_, IsPtr.mk 0⟩ ?_ ?_
                  · intro σ wv hk hd hv
                    have Hv := Lib.hid hv
                    go_simp
                    exact ⟨IsPtr.mk _, Hv.out.alloc hk (by decide)⟩
                  intro v_ hv_
                  obtain ⟨X, rfl⟩ := hv_
                  refine hK _ _ _ ?_
                  clear hK K)
               | (with_reducible apply Sk.of
                  · (intro σ wv hk hv; exact hv.pure (by decide) (by decide))
                  refine hK _ _ _ ?_
                  clear hK K))
          refine nil_gen ?_
          intro σ wn hσ hT hq
          obtain ⟨hbn, hd⟩ := hq.done hσ (by decide) (hT _ (List.mem_cons_self ..))
          clear hσ hT hq
          have hp := Hhp.out.below hbn
          have hq := Hhq.out.below hbn
          have hs := Hhs.out.below hbn
          have ha := Hha.out.below hbn
          have hbb := Hhbb.out.below hbn
          have hx := Hhx.out.below hbn
          have hy := Hhy.out.below hbn
          have hu := Hhu.out.below hbn
          have hv := Hhv.out.below hbn
          have hc := Hhc.out.below hbn
          replace hz := below_of hz hbn
          clear Hhp Hhq Hhs Hha Hhbb Hhx Hhy Hhu Hhv Hhc hbn wc
          obtain ⟨wc, rfl⟩ : ∃ wc, wc = wn := ⟨_, rfl⟩
          go_upto_region 16 with (fail)
          have Hhp := Lib.hid hp
          have Hhq := Lib.hid hq
          have Hhs := Lib.hid hs
          have Hha := Lib.hid ha
          have Hhbb := Lib.hid hbb
          have Hhx := Lib.hid hx
          have Hhy := Lib.hid hy
          have Hhu := Lib.hid hu
          have Hhv := Lib.hid hv
          have Hhc := Lib.hid hc
          have Hhd := Lib.hid hd
          clear hp hq hs ha hbb hx hy hu hv hc hd
          refine region_class (fun w => Below wc.heap.size wc w) (by kernel_rfl) (by kernel_rfl) ((Below.refl _ _).drew) ?_
          repeat
            (refine step_class (fun K hK => ?_)
             go_simp
             first
               | (refine hK _ ?_; clear hK K)
               | (with_reducible apply Hq.of
                  · intro wv hv
                    have Hv := Lib.hid hv
                    have qp := Hhp.out.below hv
                    obtain ⟨p_0, p_1, p_2, p_3, p_4, p_5, p_6, p_7, p_8, p_9, p_f⟩ := qp.ten
                    clear qp
                    have qc := Hhc.out.below hv
                    obtain ⟨c_0, c_1, c_2, c_3, c_4, c_5, c_6, c_7, c_8, c_9, c_f⟩ := qc.ten
                    clear qc
                    have qd := Hhd.out.below hv
                    obtain ⟨d_0, d_1, d_2, d_3, d_4, d_5, d_6, d_7, d_8, d_9, d_f⟩ := qd.ten
                    clear qd
                    clear hv
                    go_simp
                    (first
                      | (with_reducible exact rfl)
                      | (go_at_call 13; (with_reducible refine (fromP p _).mono ?_); rintro e' w1 ⟨rfl, hb1⟩; exact ⟨rfl, below_of Hv.out hb1⟩))
                  refine hK _ ?_
                  clear hK K))
          refine nil_class ?_
          intro wn hbn
          have hp := Hhp.out.below hbn
          have hq := Hhq.out.below hbn
          have hs := Hhs.out.below hbn
          have ha := Hha.out.below hbn
          have hbb := Hhbb.out.below hbn
          have hx := Hhx.out.below hbn
          have hy := Hhy.out.below hbn
          have hu := Hhu.out.below hbn
          have hv := Hhv.out.below hbn
          have hc := Hhc.out.below hbn
          have hd := Hhd.out.below hbn
          replace hz := below_of hz hbn
          clear Hhp Hhq Hhs Hha Hhbb Hhx Hhy Hhu Hhv Hhc Hhd hbn wc
          obtain ⟨wc, rfl⟩ : ∃ wc, wc = wn := ⟨_, rfl⟩
          go_wp2
          go_ret
          exact ⟨rfl, hz⟩
        · have hcb : (cp != 0) = true := by simp [hcp]
          clear hcp
          obtain ⟨p_0, p_1, p_2, p_3, p_4, p_5, p_6, p_7, p_8, p_9, p_f⟩ := hp.ten
          go_wp2_with (first | (go_at_call 23; (with_reducible refine (law_to p _).mono ?_); rintro e' w1 ⟨rfl, hb1⟩; replace hp := hp.below hb1; replace hq := hq.below hb1; replace hs := hs.below hb1; replace ha := ha.below hb1; replace hbb := hbb.below hb1; replace hx := hx.below hb1; replace hy := hy.below hb1; replace hz := below_of hz hb1; clear hb1) | (go_at_call 22; (with_reducible refine (check_all p.f p.k p.a0 p.a1 p.a2 p.a3 p.u p.l0 p.l1 p.l2 _ _ HC.out).mono ?_); rintro e' w1 ⟨rfl, hb1⟩; replace hp := hp.below hb1; replace hq := hq.below hb1; replace hs := hs.below hb1; replace ha := ha.below hb1; replace hbb := hbb.below hb1; replace hx := hx.below hb1; replace hy := hy.below hb1; replace hz := below_of hz hb1; clear hb1))
          go_ret
          exact ⟨rfl, hz⟩
    · have hfb : (f == 0) = false := by simp [hf]
      clear hf
      go_upto_region 10 with (fail)
      by_cases hcp : cp = 0
      · subst hcp
        obtain ⟨p_0, p_1, p_2, p_3, p_4, p_5, p_6, p_7, p_8, p_9, p_f⟩ := hp.ten
        go_upto_region 12 with (first | (go_at_call 23; (with_reducible refine (law_to p _).mono ?_); rintro e' w1 ⟨rfl, hb1⟩; replace hp := hp.below hb1; replace hq := hq.below hb1; replace hs := hs.below hb1; replace ha := ha.below hb1; replace hbb := hbb.below hb1; replace hz := below_of hz hb1; clear hb1) | (go_at_call 22; (with_reducible refine (check_all p.f p.k p.a0 p.a1 p.a2 p.a3 p.u p.l0 p.l1 p.l2 _ _ HC.out).mono ?_); rintro e' w1 ⟨rfl, hb1⟩; replace hp := hp.below hb1; replace hq := hq.below hb1; replace hs := hs.below hb1; replace ha := ha.below hb1; replace hbb := hbb.below hb1; replace hz := below_of hz hb1; clear hb1))
        clear p_0 p_1 p_2 p_3 p_4 p_5 p_6 p_7 p_8 p_9 p_f
        obtain ⟨wc, rfl⟩ : ∃ wc, wc = w1 := ⟨_, rfl⟩
        have g := good_iff.1 HC.out
        have i1 := Lib.hid (show inB p.f = true by have := g.f0; have := g.f3; simp [inB]; omega)
        have i2 := Lib.hid (show inB tp = true by rw [← HTP.out, g.to]; have := g.k0; have := g.u0; have := g.u3; simp [inB]; omega)
        have l1 := Lib.hid (show thenR ⟨p.f, p.f, 0, 0, 0, 0, 0, 0, 0, 0⟩ ⟨p.f, p.k, p.a0, p.a1, p.a2, p.a3, p.u, p.l0, p.l1, p.l2⟩ = (p, 0) from (stay_law HC.out).1)
        have hl2 := (stay_law HC.out).2
        rw [HTP.out] at hl2
        have l2 := Lib.hid (show thenR ⟨p.f, p.k, p.a0, p.a1, p.a2, p.a3, p.u, p.l0, p.l1, p.l2⟩ ⟨tp, tp, 0, 0, 0, 0, 0, 0, 0, 0⟩ = (p, 0) from hl2)
        have bf : U32 p.f := by have := g.f0; have := g.f3; unfold U32; omega
        clear hl2 g bf
        obtain ⟨p_0, p_1, p_2, p_3, p_4, p_5, p_6, p_7, p_8, p_9, p_f⟩ := hp.ten
        go_upto_region 13 with (first | (go_at_call 11; (with_reducible refine (stay_yes p.f i1.out _).mono ?_); rintro e' w1 ⟨rfl, hb1⟩; replace hp := hp.below hb1; replace hq := hq.below hb1; replace hs := hs.below hb1; replace ha := ha.below hb1; replace hbb := hbb.below hb1; replace hz := below_of hz hb1; clear hb1))
        clear p_0 p_1 p_2 p_3 p_4 p_5 p_6 p_7 p_8 p_9 p_f
        have hu := Row.new w1 #[.int .i64 p.f, .int .i64 p.f, .int .u32 0, .int .u32 0, .int .u32 0, .int .u32 0, .int .i64 0, .int .u32 0, .int .u32 0, .int .u32 0] 26
        replace hp := hp.alloc (.cells #[.int .i64 p.f, .int .i64 p.f, .int .u32 0, .int .u32 0, .int .u32 0, .int .u32 0, .int .i64 0, .int .u32 0, .int .u32 0, .int .u32 0] 26)
        replace hq := hq.alloc (.cells #[.int .i64 p.f, .int .i64 p.f, .int .u32 0, .int .u32 0, .int .u32 0, .int .u32 0, .int .i64 0, .int .u32 0, .int .u32 0, .int .u32 0] 26)
        replace hs := hs.alloc (.cells #[.int .i64 p.f, .int .i64 p.f, .int .u32 0, .int .u32 0, .int .u32 0, .int .u32 0, .int .i64 0, .int .u32 0, .int .u32 0, .int .u32 0] 26)
        replace ha := ha.alloc (.cells #[.int .i64 p.f, .int .i64 p.f, .int .u32 0, .int .u32 0, .int .u32 0, .int .u32 0, .int .i64 0, .int .u32 0, .int .u32 0, .int .u32 0] 26)
        replace hbb := hbb.alloc (.cells #[.int .i64 p.f, .int .i64 p.f, .int .u32 0, .int .u32 0, .int .u32 0, .int .u32 0, .int .i64 0, .int .u32 0, .int .u32 0, .int .u32 0] 26)
        replace hz := below_of hz (below_new w1 (.cells #[.int .i64 p.f, .int .i64 p.f, .int .u32 0, .int .u32 0, .int .u32 0, .int .u32 0, .int .i64 0, .int .u32 0, .int .u32 0, .int .u32 0] 26))
        generalize w1.heap.size = Xu at hu ⊢
        generalize w1.alloc (.cells #[.int .i64 p.f, .int .i64 p.f, .int .u32 0, .int .u32 0, .int .u32 0, .int .u32 0, .int .i64 0, .int .u32 0, .int .u32 0, .int .u32 0] 26) = wd at hu hp hq hs ha hbb hz ⊢
        obtain ⟨wc, rfl⟩ : ∃ wc, wc = wd := ⟨_, rfl⟩
        obtain ⟨p_0, p_1, p_2, p_3, p_4, p_5, p_6, p_7, p_8, p_9, p_f⟩ := hp.ten
        go_upto_region 14 with (first | (go_at_call 23; (with_reducible refine (law_to p _).mono ?_); rintro e' w1 ⟨rfl, hb1⟩; replace hp := hp.below hb1; replace hq := hq.below hb1; replace hs := hs.below hb1; replace ha := ha.below hb1; replace hbb := hbb.below hb1; replace hu := hu.below hb1; replace hz := below_of hz hb1; clear hb1) | (go_at_call 25; (with_reducible refine (to_all p.f p.k p.a0 p.a1 p.a2 p.a3 p.u p.l0 p.l1 p.l2 _ _ HTP.out).mono ?_); rintro e' w1 ⟨rfl, hb1⟩; replace hp := hp.below hb1; replace hq := hq.below hb1; replace hs := hs.below hb1; replace ha := ha.below hb1; replace hbb := hbb.below hb1; replace hu := hu.below hb1; replace hz := below_of hz hb1; clear hb1) | (go_at_call 11; (with_reducible refine (stay_yes tp i2.out _).mono ?_); rintro e' w1 ⟨rfl, hb1⟩; replace hp := hp.below hb1; replace hq := hq.below hb1; replace hs := hs.below hb1; replace ha := ha.below hb1; replace hbb := hbb.below hb1; replace hu := hu.below hb1; replace hz := below_of hz hb1; clear hb1))
        clear p_0 p_1 p_2 p_3 p_4 p_5 p_6 p_7 p_8 p_9 p_f
        have hv := Row.new w1 #[.int .i64 tp, .int .i64 tp, .int .u32 0, .int .u32 0, .int .u32 0, .int .u32 0, .int .i64 0, .int .u32 0, .int .u32 0, .int .u32 0] 26
        replace hp := hp.alloc (.cells #[.int .i64 tp, .int .i64 tp, .int .u32 0, .int .u32 0, .int .u32 0, .int .u32 0, .int .i64 0, .int .u32 0, .int .u32 0, .int .u32 0] 26)
        replace hq := hq.alloc (.cells #[.int .i64 tp, .int .i64 tp, .int .u32 0, .int .u32 0, .int .u32 0, .int .u32 0, .int .i64 0, .int .u32 0, .int .u32 0, .int .u32 0] 26)
        replace hs := hs.alloc (.cells #[.int .i64 tp, .int .i64 tp, .int .u32 0, .int .u32 0, .int .u32 0, .int .u32 0, .int .i64 0, .int .u32 0, .int .u32 0, .int .u32 0] 26)
        replace ha := ha.alloc (.cells #[.int .i64 tp, .int .i64 tp, .int .u32 0, .int .u32 0, .int .u32 0, .int .u32 0, .int .i64 0, .int .u32 0, .int .u32 0, .int .u32 0] 26)
        replace hbb := hbb.alloc (.cells #[.int .i64 tp, .int .i64 tp, .int .u32 0, .int .u32 0, .int .u32 0, .int .u32 0, .int .i64 0, .int .u32 0, .int .u32 0, .int .u32 0] 26)
        replace hu := hu.alloc (.cells #[.int .i64 tp, .int .i64 tp, .int .u32 0, .int .u32 0, .int .u32 0, .int .u32 0, .int .i64 0, .int .u32 0, .int .u32 0, .int .u32 0] 26)
        replace hz := below_of hz (below_new w1 (.cells #[.int .i64 tp, .int .i64 tp, .int .u32 0, .int .u32 0, .int .u32 0, .int .u32 0, .int .i64 0, .int .u32 0, .int .u32 0, .int .u32 0] 26))
        generalize w1.heap.size = Xv at hv ⊢
        generalize w1.alloc (.cells #[.int .i64 tp, .int .i64 tp, .int .u32 0, .int .u32 0, .int .u32 0, .int .u32 0, .int .i64 0, .int .u32 0, .int .u32 0, .int .u32 0] 26) = wd at hv hp hq hs ha hbb hu hz ⊢
        obtain ⟨wc, rfl⟩ : ∃ wc, wc = wd := ⟨_, rfl⟩
        have Hhp := Lib.hid hp
        have Hhq := Lib.hid hq
        have Hhs := Lib.hid hs
        have Hha := Lib.hid ha
        have Hhbb := Lib.hid hbb
        have Hhu := Lib.hid hu
        have Hhv := Lib.hid hv
        clear hp hq hs ha hbb hu hv
        refine region_gen (AC wc 7 8 #[.int .i64 0, .int .i64 0, .int .u32 0, .int .u32 0, .int .u32 0, .int .u32 0, .int .i64 0, .int .u32 0, .int .u32 0, .int .u32 0] #[.int .i64 p.f, .int .i64 p.k, .int .u32 p.a0, .int .u32 p.a1, .int .u32 p.a2, .int .u32 p.a3, .int .i64 p.u, .int .u32 p.l0, .int .u32 p.l1, .int .u32 p.l2] 26) (by kernel_rfl) (by kernel_rfl) (AC.start _ _ _ _ _ _) ?_
        repeat
          (refine step_gen (by decide) (by rfl) (fun K hK => ?_)
           go_simp
           first
             | (with_reducible apply H1.one
                · intro σ wv hk hd hv
                  have Hv := Lib.hid hv
                  have qp := Hhp.out.below hv.b
                  obtain ⟨p_0, p_1, p_2, p_3, p_4, p_5, p_6, p_7, p_8, p_9, p_f⟩ := qp.ten
                  clear qp
                  have qu := Hhu.out.below hv.b
                  obtain ⟨u_0, u_1, u_2, u_3, u_4, u_5, u_6, u_7, u_8, u_9, u_f⟩ := qu.ten
                  clear qu
                  try (have z_ := (hv.row (hd.get 7 (List.mem_cons_self ..) (by kernel_rfl)) hk).2; obtain ⟨x_0, x_1, x_2, x_3, x_4, x_5, x_6, x_7, x_8, x_9, x_f⟩ := z_.ten; clear z_)
                  clear hv
                  go_simp
                  (first
                    | (go_at_call 23; (with_reducible refine (law_to p _).mono ?_); rintro e' w1 ⟨rfl, hb1⟩; exact ⟨_, rfl, rfl, Hv.out.call hb1 (by decide) (by decide)⟩)
                    | (go_at_call 35; (with_reducible refine (then_all p.f p.f 0 0 0 0 0 0 0 0 p.f p.k p.a0 p.a1 p.a2 p.a3 p.u p.l0 p.l1 p.l2 _ (okStay p.f) OP.out _ _ l1.out).mono ?_); rintro e' w1 ⟨rfl, hb1⟩; exact ⟨_, rfl, rfl, Hv.out.call hb1 (by decide) (by decide)⟩)
                    | (with_reducible refine ⟨rfl, ?_⟩; first | (with_reducible exact AC.pure Hv.out (by decide) (by decide)) | (with_reducible exact AC.store10 Hv.out (hd.get 7 (List.mem_cons_self ..) (by kernel_rfl)) hk (by decide))))
                refine hK _ _ _ ?_
                clear hK K)
             | (with_reducible refine H1.any IsPtr ⟨_, IsPtr.mk 0⟩ ?_ ?_
                · intro σ wv hk hd hv
                  have Hv := Lib.hid hv
                  go_simp
                  exact ⟨IsPtr.mk _, Hv.out.alloc hk (by decide)⟩
                intro v_ hv_
                obtain ⟨X, rfl⟩ := hv_
                refine hK _ _ _ ?_
                clear hK K)
             | (with_reducible apply Sk.of
                · (intro σ wv hk hv; exact hv.pure (by decide) (by decide))
                refine hK _ _ _ ?_
                clear hK K))
        refine nil_gen ?_
        intro σ wn hσ hT hq
        obtain ⟨hbn, hc⟩ := hq.done hσ (by decide) (hT _ (List.mem_cons_self ..))
        clear hσ hT hq
        have hp := Hhp.out.below hbn
        have hq := Hhq.out.below hbn
        have hs := Hhs.out.below hbn
        have ha := Hha.out.below hbn
        have hbb := Hhbb.out.below hbn
        have hu := Hhu.out.below hbn
        have hv := Hhv.out.below hbn
        replace hz := below_of hz hbn
        clear Hhp Hhq Hhs Hha Hhbb Hhu Hhv hbn wc
        obtain ⟨wc, rfl⟩ : ∃ wc, wc = wn := ⟨_, rfl⟩
        go_upto_region 15 with (fail)
        have Hhp := Lib.hid hp
        have Hhq := Lib.hid hq
        have Hhs := Lib.hid hs
        have Hha := Lib.hid ha
        have Hhbb := Lib.hid hbb
        have Hhu := Lib.hid hu
        have Hhv := Lib.hid hv
        have Hhc := Lib.hid hc
        clear hp hq hs ha hbb hu hv hc
        refine region_gen (AC wc 7 8 #[.int .i64 0, .int .i64 0, .int .u32 0, .int .u32 0, .int .u32 0, .int .u32 0, .int .i64 0, .int .u32 0, .int .u32 0, .int .u32 0] #[.int .i64 p.f, .int .i64 p.k, .int .u32 p.a0, .int .u32 p.a1, .int .u32 p.a2, .int .u32 p.a3, .int .i64 p.u, .int .u32 p.l0, .int .u32 p.l1, .int .u32 p.l2] 26) (by kernel_rfl) (by kernel_rfl) (AC.start _ _ _ _ _ _) ?_
        repeat
          (refine step_gen (by decide) (by rfl) (fun K hK => ?_)
           go_simp
           first
             | (with_reducible apply H1.one
                · intro σ wv hk hd hv
                  have Hv := Lib.hid hv
                  have qp := Hhp.out.below hv.b
                  obtain ⟨p_0, p_1, p_2, p_3, p_4, p_5, p_6, p_7, p_8, p_9, p_f⟩ := qp.ten
                  clear qp
                  have qv := Hhv.out.below hv.b
                  obtain ⟨v_0, v_1, v_2, v_3, v_4, v_5, v_6, v_7, v_8, v_9, v_f⟩ := qv.ten
                  clear qv
                  try (have z_ := (hv.row (hd.get 7 (List.mem_cons_self ..) (by kernel_rfl)) hk).2; obtain ⟨x_0, x_1, x_2, x_3, x_4, x_5, x_6, x_7, x_8, x_9, x_f⟩ := z_.ten; clear z_)
                  clear hv
                  go_simp
                  (first
                    | (go_at_call 23; (with_reducible refine (law_to p _).mono ?_); rintro e' w1 ⟨rfl, hb1⟩; exact ⟨_, rfl, rfl, Hv.out.call hb1 (by decide) (by decide)⟩)
                    | (go_at_call 35; (with_reducible refine (then_all p.f p.k p.a0 p.a1 p.a2 p.a3 p.u p.l0 p.l1 p.l2 tp tp 0 0 0 0 0 0 0 0 _ OP.out (okStay tp) _ _ l2.out).mono ?_); rintro e' w1 ⟨rfl, hb1⟩; exact ⟨_, rfl, rfl, Hv.out.call hb1 (by decide) (by decide)⟩)
                    | (with_reducible refine ⟨rfl, ?_⟩; first | (with_reducible exact AC.pure Hv.out (by decide) (by decide)) | (with_reducible exact AC.store10 Hv.out (hd.get 7 (List.mem_cons_self ..) (by kernel_rfl)) hk (by decide))))
                refine hK _ _ _ ?_
                clear hK K)
             | (with_reducible refine H1.any IsPtr ⟨_, IsPtr.mk 0⟩ ?_ ?_
                · intro σ wv hk hd hv
                  have Hv := Lib.hid hv
                  go_simp
                  exact ⟨IsPtr.mk _, Hv.out.alloc hk (by decide)⟩
                intro v_ hv_
                obtain ⟨X, rfl⟩ := hv_
                refine hK _ _ _ ?_
                clear hK K)
             | (with_reducible apply Sk.of
                · (intro σ wv hk hv; exact hv.pure (by decide) (by decide))
                refine hK _ _ _ ?_
                clear hK K))
        refine nil_gen ?_
        intro σ wn hσ hT hq
        obtain ⟨hbn, hd⟩ := hq.done hσ (by decide) (hT _ (List.mem_cons_self ..))
        clear hσ hT hq
        have hp := Hhp.out.below hbn
        have hq := Hhq.out.below hbn
        have hs := Hhs.out.below hbn
        have ha := Hha.out.below hbn
        have hbb := Hhbb.out.below hbn
        have hu := Hhu.out.below hbn
        have hv := Hhv.out.below hbn
        have hc := Hhc.out.below hbn
        replace hz := below_of hz hbn
        clear Hhp Hhq Hhs Hha Hhbb Hhu Hhv Hhc hbn wc
        obtain ⟨wc, rfl⟩ : ∃ wc, wc = wn := ⟨_, rfl⟩
        go_upto_region 16 with (fail)
        have Hhp := Lib.hid hp
        have Hhq := Lib.hid hq
        have Hhs := Lib.hid hs
        have Hha := Lib.hid ha
        have Hhbb := Lib.hid hbb
        have Hhu := Lib.hid hu
        have Hhv := Lib.hid hv
        have Hhc := Lib.hid hc
        have Hhd := Lib.hid hd
        clear hp hq hs ha hbb hu hv hc hd
        refine region_class (fun w => Below wc.heap.size wc w) (by kernel_rfl) (by kernel_rfl) ((Below.refl _ _).drew) ?_
        repeat
          (refine step_class (fun K hK => ?_)
           go_simp
           first
             | (refine hK _ ?_; clear hK K)
             | (with_reducible apply Hq.of
                · intro wv hv
                  have Hv := Lib.hid hv
                  have qp := Hhp.out.below hv
                  obtain ⟨p_0, p_1, p_2, p_3, p_4, p_5, p_6, p_7, p_8, p_9, p_f⟩ := qp.ten
                  clear qp
                  have qc := Hhc.out.below hv
                  obtain ⟨c_0, c_1, c_2, c_3, c_4, c_5, c_6, c_7, c_8, c_9, c_f⟩ := qc.ten
                  clear qc
                  have qd := Hhd.out.below hv
                  obtain ⟨d_0, d_1, d_2, d_3, d_4, d_5, d_6, d_7, d_8, d_9, d_f⟩ := qd.ten
                  clear qd
                  clear hv
                  go_simp
                  (first
                    | (with_reducible exact rfl)
                    | (go_at_call 13; (with_reducible refine (fromP p _).mono ?_); rintro e' w1 ⟨rfl, hb1⟩; exact ⟨rfl, below_of Hv.out hb1⟩))
                refine hK _ ?_
                clear hK K))
        refine nil_class ?_
        intro wn hbn
        have hp := Hhp.out.below hbn
        have hq := Hhq.out.below hbn
        have hs := Hhs.out.below hbn
        have ha := Hha.out.below hbn
        have hbb := Hhbb.out.below hbn
        have hu := Hhu.out.below hbn
        have hv := Hhv.out.below hbn
        have hc := Hhc.out.below hbn
        have hd := Hhd.out.below hbn
        replace hz := below_of hz hbn
        clear Hhp Hhq Hhs Hha Hhbb Hhu Hhv Hhc Hhd hbn wc
        obtain ⟨wc, rfl⟩ : ∃ wc, wc = wn := ⟨_, rfl⟩
        go_wp2
        go_ret
        exact ⟨rfl, hz⟩
      · have hcb : (cp != 0) = true := by simp [hcp]
        clear hcp
        obtain ⟨p_0, p_1, p_2, p_3, p_4, p_5, p_6, p_7, p_8, p_9, p_f⟩ := hp.ten
        go_wp2_with (first | (go_at_call 23; (with_reducible refine (law_to p _).mono ?_); rintro e' w1 ⟨rfl, hb1⟩; replace hp := hp.below hb1; replace hq := hq.below hb1; replace hs := hs.below hb1; replace ha := ha.below hb1; replace hbb := hbb.below hb1; replace hz := below_of hz hb1; clear hb1) | (go_at_call 22; (with_reducible refine (check_all p.f p.k p.a0 p.a1 p.a2 p.a3 p.u p.l0 p.l1 p.l2 _ _ HC.out).mono ?_); rintro e' w1 ⟨rfl, hb1⟩; replace hp := hp.below hb1; replace hq := hq.below hb1; replace hs := hs.below hb1; replace ha := ha.below hb1; replace hbb := hbb.below hb1; replace hz := below_of hz hb1; clear hb1))
        go_ret
        exact ⟨rfl, hz⟩
  · have heb : (e == 0) = false := by simp [he]
    clear he
    go_upto_region 10 with (fail)
    by_cases hcp : cp = 0
    · subst hcp
      obtain ⟨p_0, p_1, p_2, p_3, p_4, p_5, p_6, p_7, p_8, p_9, p_f⟩ := hp.ten
      go_upto_region 12 with (first | (go_at_call 23; (with_reducible refine (law_to p _).mono ?_); rintro e' w1 ⟨rfl, hb1⟩; replace hp := hp.below hb1; replace hq := hq.below hb1; replace hs := hs.below hb1; replace ha := ha.below hb1; replace hbb := hbb.below hb1; replace hz := below_of hz hb1; clear hb1) | (go_at_call 22; (with_reducible refine (check_all p.f p.k p.a0 p.a1 p.a2 p.a3 p.u p.l0 p.l1 p.l2 _ _ HC.out).mono ?_); rintro e' w1 ⟨rfl, hb1⟩; replace hp := hp.below hb1; replace hq := hq.below hb1; replace hs := hs.below hb1; replace ha := ha.below hb1; replace hbb := hbb.below hb1; replace hz := below_of hz hb1; clear hb1))
      clear p_0 p_1 p_2 p_3 p_4 p_5 p_6 p_7 p_8 p_9 p_f
      obtain ⟨wc, rfl⟩ : ∃ wc, wc = w1 := ⟨_, rfl⟩
      have g := good_iff.1 HC.out
      have i1 := Lib.hid (show inB p.f = true by have := g.f0; have := g.f3; simp [inB]; omega)
      have i2 := Lib.hid (show inB tp = true by rw [← HTP.out, g.to]; have := g.k0; have := g.u0; have := g.u3; simp [inB]; omega)
      have l1 := Lib.hid (show thenR ⟨p.f, p.f, 0, 0, 0, 0, 0, 0, 0, 0⟩ ⟨p.f, p.k, p.a0, p.a1, p.a2, p.a3, p.u, p.l0, p.l1, p.l2⟩ = (p, 0) from (stay_law HC.out).1)
      have hl2 := (stay_law HC.out).2
      rw [HTP.out] at hl2
      have l2 := Lib.hid (show thenR ⟨p.f, p.k, p.a0, p.a1, p.a2, p.a3, p.u, p.l0, p.l1, p.l2⟩ ⟨tp, tp, 0, 0, 0, 0, 0, 0, 0, 0⟩ = (p, 0) from hl2)
      have bf : U32 p.f := by have := g.f0; have := g.f3; unfold U32; omega
      clear hl2 g bf
      obtain ⟨p_0, p_1, p_2, p_3, p_4, p_5, p_6, p_7, p_8, p_9, p_f⟩ := hp.ten
      go_upto_region 13 with (first | (go_at_call 11; (with_reducible refine (stay_yes p.f i1.out _).mono ?_); rintro e' w1 ⟨rfl, hb1⟩; replace hp := hp.below hb1; replace hq := hq.below hb1; replace hs := hs.below hb1; replace ha := ha.below hb1; replace hbb := hbb.below hb1; replace hz := below_of hz hb1; clear hb1))
      clear p_0 p_1 p_2 p_3 p_4 p_5 p_6 p_7 p_8 p_9 p_f
      have hu := Row.new w1 #[.int .i64 p.f, .int .i64 p.f, .int .u32 0, .int .u32 0, .int .u32 0, .int .u32 0, .int .i64 0, .int .u32 0, .int .u32 0, .int .u32 0] 26
      replace hp := hp.alloc (.cells #[.int .i64 p.f, .int .i64 p.f, .int .u32 0, .int .u32 0, .int .u32 0, .int .u32 0, .int .i64 0, .int .u32 0, .int .u32 0, .int .u32 0] 26)
      replace hq := hq.alloc (.cells #[.int .i64 p.f, .int .i64 p.f, .int .u32 0, .int .u32 0, .int .u32 0, .int .u32 0, .int .i64 0, .int .u32 0, .int .u32 0, .int .u32 0] 26)
      replace hs := hs.alloc (.cells #[.int .i64 p.f, .int .i64 p.f, .int .u32 0, .int .u32 0, .int .u32 0, .int .u32 0, .int .i64 0, .int .u32 0, .int .u32 0, .int .u32 0] 26)
      replace ha := ha.alloc (.cells #[.int .i64 p.f, .int .i64 p.f, .int .u32 0, .int .u32 0, .int .u32 0, .int .u32 0, .int .i64 0, .int .u32 0, .int .u32 0, .int .u32 0] 26)
      replace hbb := hbb.alloc (.cells #[.int .i64 p.f, .int .i64 p.f, .int .u32 0, .int .u32 0, .int .u32 0, .int .u32 0, .int .i64 0, .int .u32 0, .int .u32 0, .int .u32 0] 26)
      replace hz := below_of hz (below_new w1 (.cells #[.int .i64 p.f, .int .i64 p.f, .int .u32 0, .int .u32 0, .int .u32 0, .int .u32 0, .int .i64 0, .int .u32 0, .int .u32 0, .int .u32 0] 26))
      generalize w1.heap.size = Xu at hu ⊢
      generalize w1.alloc (.cells #[.int .i64 p.f, .int .i64 p.f, .int .u32 0, .int .u32 0, .int .u32 0, .int .u32 0, .int .i64 0, .int .u32 0, .int .u32 0, .int .u32 0] 26) = wd at hu hp hq hs ha hbb hz ⊢
      obtain ⟨wc, rfl⟩ : ∃ wc, wc = wd := ⟨_, rfl⟩
      obtain ⟨p_0, p_1, p_2, p_3, p_4, p_5, p_6, p_7, p_8, p_9, p_f⟩ := hp.ten
      go_upto_region 14 with (first | (go_at_call 23; (with_reducible refine (law_to p _).mono ?_); rintro e' w1 ⟨rfl, hb1⟩; replace hp := hp.below hb1; replace hq := hq.below hb1; replace hs := hs.below hb1; replace ha := ha.below hb1; replace hbb := hbb.below hb1; replace hu := hu.below hb1; replace hz := below_of hz hb1; clear hb1) | (go_at_call 25; (with_reducible refine (to_all p.f p.k p.a0 p.a1 p.a2 p.a3 p.u p.l0 p.l1 p.l2 _ _ HTP.out).mono ?_); rintro e' w1 ⟨rfl, hb1⟩; replace hp := hp.below hb1; replace hq := hq.below hb1; replace hs := hs.below hb1; replace ha := ha.below hb1; replace hbb := hbb.below hb1; replace hu := hu.below hb1; replace hz := below_of hz hb1; clear hb1) | (go_at_call 11; (with_reducible refine (stay_yes tp i2.out _).mono ?_); rintro e' w1 ⟨rfl, hb1⟩; replace hp := hp.below hb1; replace hq := hq.below hb1; replace hs := hs.below hb1; replace ha := ha.below hb1; replace hbb := hbb.below hb1; replace hu := hu.below hb1; replace hz := below_of hz hb1; clear hb1))
      clear p_0 p_1 p_2 p_3 p_4 p_5 p_6 p_7 p_8 p_9 p_f
      have hv := Row.new w1 #[.int .i64 tp, .int .i64 tp, .int .u32 0, .int .u32 0, .int .u32 0, .int .u32 0, .int .i64 0, .int .u32 0, .int .u32 0, .int .u32 0] 26
      replace hp := hp.alloc (.cells #[.int .i64 tp, .int .i64 tp, .int .u32 0, .int .u32 0, .int .u32 0, .int .u32 0, .int .i64 0, .int .u32 0, .int .u32 0, .int .u32 0] 26)
      replace hq := hq.alloc (.cells #[.int .i64 tp, .int .i64 tp, .int .u32 0, .int .u32 0, .int .u32 0, .int .u32 0, .int .i64 0, .int .u32 0, .int .u32 0, .int .u32 0] 26)
      replace hs := hs.alloc (.cells #[.int .i64 tp, .int .i64 tp, .int .u32 0, .int .u32 0, .int .u32 0, .int .u32 0, .int .i64 0, .int .u32 0, .int .u32 0, .int .u32 0] 26)
      replace ha := ha.alloc (.cells #[.int .i64 tp, .int .i64 tp, .int .u32 0, .int .u32 0, .int .u32 0, .int .u32 0, .int .i64 0, .int .u32 0, .int .u32 0, .int .u32 0] 26)
      replace hbb := hbb.alloc (.cells #[.int .i64 tp, .int .i64 tp, .int .u32 0, .int .u32 0, .int .u32 0, .int .u32 0, .int .i64 0, .int .u32 0, .int .u32 0, .int .u32 0] 26)
      replace hu := hu.alloc (.cells #[.int .i64 tp, .int .i64 tp, .int .u32 0, .int .u32 0, .int .u32 0, .int .u32 0, .int .i64 0, .int .u32 0, .int .u32 0, .int .u32 0] 26)
      replace hz := below_of hz (below_new w1 (.cells #[.int .i64 tp, .int .i64 tp, .int .u32 0, .int .u32 0, .int .u32 0, .int .u32 0, .int .i64 0, .int .u32 0, .int .u32 0, .int .u32 0] 26))
      generalize w1.heap.size = Xv at hv ⊢
      generalize w1.alloc (.cells #[.int .i64 tp, .int .i64 tp, .int .u32 0, .int .u32 0, .int .u32 0, .int .u32 0, .int .i64 0, .int .u32 0, .int .u32 0, .int .u32 0] 26) = wd at hv hp hq hs ha hbb hu hz ⊢
      obtain ⟨wc, rfl⟩ : ∃ wc, wc = wd := ⟨_, rfl⟩
      have Hhp := Lib.hid hp
      have Hhq := Lib.hid hq
      have Hhs := Lib.hid hs
      have Hha := Lib.hid ha
      have Hhbb := Lib.hid hbb
      have Hhu := Lib.hid hu
      have Hhv := Lib.hid hv
      clear hp hq hs ha hbb hu hv
      refine region_gen (AC wc 7 8 #[.int .i64 0, .int .i64 0, .int .u32 0, .int .u32 0, .int .u32 0, .int .u32 0, .int .i64 0, .int .u32 0, .int .u32 0, .int .u32 0] #[.int .i64 p.f, .int .i64 p.k, .int .u32 p.a0, .int .u32 p.a1, .int .u32 p.a2, .int .u32 p.a3, .int .i64 p.u, .int .u32 p.l0, .int .u32 p.l1, .int .u32 p.l2] 26) (by kernel_rfl) (by kernel_rfl) (AC.start _ _ _ _ _ _) ?_
      repeat
        (refine step_gen (by decide) (by rfl) (fun K hK => ?_)
         go_simp
         first
           | (with_reducible apply H1.one
              · intro σ wv hk hd hv
                have Hv := Lib.hid hv
                have qp := Hhp.out.below hv.b
                obtain ⟨p_0, p_1, p_2, p_3, p_4, p_5, p_6, p_7, p_8, p_9, p_f⟩ := qp.ten
                clear qp
                have qu := Hhu.out.below hv.b
                obtain ⟨u_0, u_1, u_2, u_3, u_4, u_5, u_6, u_7, u_8, u_9, u_f⟩ := qu.ten
                clear qu
                try (have z_ := (hv.row (hd.get 7 (List.mem_cons_self ..) (by kernel_rfl)) hk).2; obtain ⟨x_0, x_1, x_2, x_3, x_4, x_5, x_6, x_7, x_8, x_9, x_f⟩ := z_.ten; clear z_)
                clear hv
                go_simp
                (first
                  | (go_at_call 23; (with_reducible refine (law_to p _).mono ?_); rintro e' w1 ⟨rfl, hb1⟩; exact ⟨_, rfl, rfl, Hv.out.call hb1 (by decide) (by decide)⟩)
                  | (go_at_call 35; (with_reducible refine (then_all p.f p.f 0 0 0 0 0 0 0 0 p.f p.k p.a0 p.a1 p.a2 p.a3 p.u p.l0 p.l1 p.l2 _ (okStay p.f) OP.out _ _ l1.out).mono ?_); rintro e' w1 ⟨rfl, hb1⟩; exact ⟨_, rfl, rfl, Hv.out.call hb1 (by decide) (by decide)⟩)
                  | (with_reducible refine ⟨rfl, ?_⟩; first | (with_reducible exact AC.pure Hv.out (by decide) (by decide)) | (with_reducible exact AC.store10 Hv.out (hd.get 7 (List.mem_cons_self ..) (by kernel_rfl)) hk (by decide))))
              refine hK _ _ _ ?_
              clear hK K)
           | (with_reducible refine H1.any IsPtr ⟨_, IsPtr.mk 0⟩ ?_ ?_
              · intro σ wv hk hd hv
                have Hv := Lib.hid hv
                go_simp
                exact ⟨IsPtr.mk _, Hv.out.alloc hk (by decide)⟩
              intro v_ hv_
              obtain ⟨X, rfl⟩ := hv_
              refine hK _ _ _ ?_
              clear hK K)
           | (with_reducible apply Sk.of
              · (intro σ wv hk hv; exact hv.pure (by decide) (by decide))
              refine hK _ _ _ ?_
              clear hK K))
      refine nil_gen ?_
      intro σ wn hσ hT hq
      obtain ⟨hbn, hc⟩ := hq.done hσ (by decide) (hT _ (List.mem_cons_self ..))
      clear hσ hT hq
      have hp := Hhp.out.below hbn
      have hq := Hhq.out.below hbn
      have hs := Hhs.out.below hbn
      have ha := Hha.out.below hbn
      have hbb := Hhbb.out.below hbn
      have hu := Hhu.out.below hbn
      have hv := Hhv.out.below hbn
      replace hz := below_of hz hbn
      clear Hhp Hhq Hhs Hha Hhbb Hhu Hhv hbn wc
      obtain ⟨wc, rfl⟩ : ∃ wc, wc = wn := ⟨_, rfl⟩
      go_upto_region 15 with (fail)
      have Hhp := Lib.hid hp
      have Hhq := Lib.hid hq
      have Hhs := Lib.hid hs
      have Hha := Lib.hid ha
      have Hhbb := Lib.hid hbb
      have Hhu := Lib.hid hu
      have Hhv := Lib.hid hv
      have Hhc := Lib.hid hc
      clear hp hq hs ha hbb hu hv hc
      refine region_gen (AC wc 7 8 #[.int .i64 0, .int .i64 0, .int .u32 0, .int .u32 0, .int .u32 0, .int .u32 0, .int .i64 0, .int .u32 0, .int .u32 0, .int .u32 0] #[.int .i64 p.f, .int .i64 p.k, .int .u32 p.a0, .int .u32 p.a1, .int .u32 p.a2, .int .u32 p.a3, .int .i64 p.u, .int .u32 p.l0, .int .u32 p.l1, .int .u32 p.l2] 26) (by kernel_rfl) (by kernel_rfl) (AC.start _ _ _ _ _ _) ?_
      repeat
        (refine step_gen (by decide) (by rfl) (fun K hK => ?_)
         go_simp
         first
           | (with_reducible apply H1.one
              · intro σ wv hk hd hv
                have Hv := Lib.hid hv
                have qp := Hhp.out.below hv.b
                obtain ⟨p_0, p_1, p_2, p_3, p_4, p_5, p_6, p_7, p_8, p_9, p_f⟩ := qp.ten
                clear qp
                have qv := Hhv.out.below hv.b
                obtain ⟨v_0, v_1, v_2, v_3, v_4, v_5, v_6, v_7, v_8, v_9, v_f⟩ := qv.ten
                clear qv
                try (have z_ := (hv.row (hd.get 7 (List.mem_cons_self ..) (by kernel_rfl)) hk).2; obtain ⟨x_0, x_1, x_2, x_3, x_4, x_5, x_6, x_7, x_8, x_9, x_f⟩ := z_.ten; clear z_)
                clear hv
                go_simp
                (first
                  | (go_at_call 23; (with_reducible refine (law_to p _).mono ?_); rintro e' w1 ⟨rfl, hb1⟩; exact ⟨_, rfl, rfl, Hv.out.call hb1 (by decide) (by decide)⟩)
                  | (go_at_call 35; (with_reducible refine (then_all p.f p.k p.a0 p.a1 p.a2 p.a3 p.u p.l0 p.l1 p.l2 tp tp 0 0 0 0 0 0 0 0 _ OP.out (okStay tp) _ _ l2.out).mono ?_); rintro e' w1 ⟨rfl, hb1⟩; exact ⟨_, rfl, rfl, Hv.out.call hb1 (by decide) (by decide)⟩)
                  | (with_reducible refine ⟨rfl, ?_⟩; first | (with_reducible exact AC.pure Hv.out (by decide) (by decide)) | (with_reducible exact AC.store10 Hv.out (hd.get 7 (List.mem_cons_self ..) (by kernel_rfl)) hk (by decide))))
              refine hK _ _ _ ?_
              clear hK K)
           | (with_reducible refine H1.any IsPtr ⟨_, IsPtr.mk 0⟩ ?_ ?_
              · intro σ wv hk hd hv
                have Hv := Lib.hid hv
                go_simp
                exact ⟨IsPtr.mk _, Hv.out.alloc hk (by decide)⟩
              intro v_ hv_
              obtain ⟨X, rfl⟩ := hv_
              refine hK _ _ _ ?_
              clear hK K)
           | (with_reducible apply Sk.of
              · (intro σ wv hk hv; exact hv.pure (by decide) (by decide))
              refine hK _ _ _ ?_
              clear hK K))
      refine nil_gen ?_
      intro σ wn hσ hT hq
      obtain ⟨hbn, hd⟩ := hq.done hσ (by decide) (hT _ (List.mem_cons_self ..))
      clear hσ hT hq
      have hp := Hhp.out.below hbn
      have hq := Hhq.out.below hbn
      have hs := Hhs.out.below hbn
      have ha := Hha.out.below hbn
      have hbb := Hhbb.out.below hbn
      have hu := Hhu.out.below hbn
      have hv := Hhv.out.below hbn
      have hc := Hhc.out.below hbn
      replace hz := below_of hz hbn
      clear Hhp Hhq Hhs Hha Hhbb Hhu Hhv Hhc hbn wc
      obtain ⟨wc, rfl⟩ : ∃ wc, wc = wn := ⟨_, rfl⟩
      go_upto_region 16 with (fail)
      have Hhp := Lib.hid hp
      have Hhq := Lib.hid hq
      have Hhs := Lib.hid hs
      have Hha := Lib.hid ha
      have Hhbb := Lib.hid hbb
      have Hhu := Lib.hid hu
      have Hhv := Lib.hid hv
      have Hhc := Lib.hid hc
      have Hhd := Lib.hid hd
      clear hp hq hs ha hbb hu hv hc hd
      refine region_class (fun w => Below wc.heap.size wc w) (by kernel_rfl) (by kernel_rfl) ((Below.refl _ _).drew) ?_
      repeat
        (refine step_class (fun K hK => ?_)
         go_simp
         first
           | (refine hK _ ?_; clear hK K)
           | (with_reducible apply Hq.of
              · intro wv hv
                have Hv := Lib.hid hv
                have qp := Hhp.out.below hv
                obtain ⟨p_0, p_1, p_2, p_3, p_4, p_5, p_6, p_7, p_8, p_9, p_f⟩ := qp.ten
                clear qp
                have qc := Hhc.out.below hv
                obtain ⟨c_0, c_1, c_2, c_3, c_4, c_5, c_6, c_7, c_8, c_9, c_f⟩ := qc.ten
                clear qc
                have qd := Hhd.out.below hv
                obtain ⟨d_0, d_1, d_2, d_3, d_4, d_5, d_6, d_7, d_8, d_9, d_f⟩ := qd.ten
                clear qd
                clear hv
                go_simp
                (first
                  | (with_reducible exact rfl)
                  | (go_at_call 13; (with_reducible refine (fromP p _).mono ?_); rintro e' w1 ⟨rfl, hb1⟩; exact ⟨rfl, below_of Hv.out hb1⟩))
              refine hK _ ?_
              clear hK K))
      refine nil_class ?_
      intro wn hbn
      have hp := Hhp.out.below hbn
      have hq := Hhq.out.below hbn
      have hs := Hhs.out.below hbn
      have ha := Hha.out.below hbn
      have hbb := Hhbb.out.below hbn
      have hu := Hhu.out.below hbn
      have hv := Hhv.out.below hbn
      have hc := Hhc.out.below hbn
      have hd := Hhd.out.below hbn
      replace hz := below_of hz hbn
      clear Hhp Hhq Hhs Hha Hhbb Hhu Hhv Hhc Hhd hbn wc
      obtain ⟨wc, rfl⟩ : ∃ wc, wc = wn := ⟨_, rfl⟩
      go_wp2
      go_ret
      exact ⟨rfl, hz⟩
    · have hcb : (cp != 0) = true := by simp [hcp]
      clear hcp
      obtain ⟨p_0, p_1, p_2, p_3, p_4, p_5, p_6, p_7, p_8, p_9, p_f⟩ := hp.ten
      go_wp2_with (first | (go_at_call 23; (with_reducible refine (law_to p _).mono ?_); rintro e' w1 ⟨rfl, hb1⟩; replace hp := hp.below hb1; replace hq := hq.below hb1; replace hs := hs.below hb1; replace ha := ha.below hb1; replace hbb := hbb.below hb1; replace hz := below_of hz hb1; clear hb1) | (go_at_call 22; (with_reducible refine (check_all p.f p.k p.a0 p.a1 p.a2 p.a3 p.u p.l0 p.l1 p.l2 _ _ HC.out).mono ?_); rintro e' w1 ⟨rfl, hb1⟩; replace hp := hp.below hb1; replace hq := hq.below hb1; replace hs := hs.below hb1; replace ha := ha.below hb1; replace hbb := hbb.below hb1; replace hz := below_of hz hb1; clear hb1))
      go_ret
      exact ⟨rfl, hz⟩
end Go.Proofs.Ytfmnbkcjibhloaa
