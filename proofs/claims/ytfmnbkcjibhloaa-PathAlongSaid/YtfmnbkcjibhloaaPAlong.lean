/- PathAlong: times keep how they stand. Condition: counts of uint32's range. -/
import Derived.Test.YtfmnbkcjibhloaaWorks
namespace Go.Proofs.Ytfmnbkcjibhloaa
open Go.RowKit
set_option linter.unusedVariables false
set_option linter.unusedSimpArgs false
attribute [local go_sem] eqA4 eqA3 G.upon_value G.upon_skip G.upon_enter G.runAt_run
open G
set_option maxRecDepth 100000 in
set_option maxHeartbeats 16000000 in
theorem palong_any (p : Pa) (t : Tm) (u : Tm) (w : World) (okp : PaOk p) (okt : TmOk t) (oku : TmOk u) : Calls Try.prog 9 #[.agg #[.int .i64 p.f, .int .i64 p.k, .int .u32 p.a0, .int .u32 p.a1, .int .u32 p.a2, .int .u32 p.a3, .int .i64 p.u, .int .u32 p.l0, .int .u32 p.l1, .int .u32 p.l2], .agg #[.int .u32 t.e, .int .i64 t.d, .int .u32 t.l0, .int .u32 t.l1, .int .u32 t.l2], .agg #[.int .u32 u.e, .int .i64 u.d, .int .u32 u.l0, .int .u32 u.l1, .int .u32 u.l2]] w fun e' w' => e' = .returned (.bool true) ∧ Below w.heap.size w w' := by
  obtain ⟨⟨x, c⟩, h_⟩ : ∃ xc, applyR p t = xc := ⟨_, rfl⟩
  have HX := Lib.hid h_
  clear h_
  obtain ⟨⟨y, d⟩, h_⟩ : ∃ xc, applyR p u = xc := ⟨_, rfl⟩
  have HY := Lib.hid h_
  clear h_
  have OP := Lib.hid okp
  have OT := Lib.hid okt
  have OU := Lib.hid oku
  clear okp okt oku
  go_enter Try.func9, Try.ntmps9
  go_upto_region 1 with (fail)
  have hp : Row (((w.alloc (.cells #[.int .i64 p.f, .int .i64 p.k, .int .u32 p.a0, .int .u32 p.a1, .int .u32 p.a2, .int .u32 p.a3, .int .i64 p.u, .int .u32 p.l0, .int .u32 p.l1, .int .u32 p.l2] 30)).alloc (.cells #[.int .u32 t.e, .int .i64 t.d, .int .u32 t.l0, .int .u32 t.l1, .int .u32 t.l2] 49)).alloc (.cells #[.int .u32 u.e, .int .i64 u.d, .int .u32 u.l0, .int .u32 u.l1, .int .u32 u.l2] 49)) (w.heap.size) #[.int .i64 p.f, .int .i64 p.k, .int .u32 p.a0, .int .u32 p.a1, .int .u32 p.a2, .int .u32 p.a3, .int .i64 p.u, .int .u32 p.l0, .int .u32 p.l1, .int .u32 p.l2] 30 := by simpa using ((Row.new w #[.int .i64 p.f, .int .i64 p.k, .int .u32 p.a0, .int .u32 p.a1, .int .u32 p.a2, .int .u32 p.a3, .int .i64 p.u, .int .u32 p.l0, .int .u32 p.l1, .int .u32 p.l2] 30).alloc (.cells #[.int .u32 t.e, .int .i64 t.d, .int .u32 t.l0, .int .u32 t.l1, .int .u32 t.l2] 49)).alloc (.cells #[.int .u32 u.e, .int .i64 u.d, .int .u32 u.l0, .int .u32 u.l1, .int .u32 u.l2] 49)
  have ht : Row (((w.alloc (.cells #[.int .i64 p.f, .int .i64 p.k, .int .u32 p.a0, .int .u32 p.a1, .int .u32 p.a2, .int .u32 p.a3, .int .i64 p.u, .int .u32 p.l0, .int .u32 p.l1, .int .u32 p.l2] 30)).alloc (.cells #[.int .u32 t.e, .int .i64 t.d, .int .u32 t.l0, .int .u32 t.l1, .int .u32 t.l2] 49)).alloc (.cells #[.int .u32 u.e, .int .i64 u.d, .int .u32 u.l0, .int .u32 u.l1, .int .u32 u.l2] 49)) (w.heap.size + 1) #[.int .u32 t.e, .int .i64 t.d, .int .u32 t.l0, .int .u32 t.l1, .int .u32 t.l2] 49 := by simpa using (Row.new (w.alloc (.cells #[.int .i64 p.f, .int .i64 p.k, .int .u32 p.a0, .int .u32 p.a1, .int .u32 p.a2, .int .u32 p.a3, .int .i64 p.u, .int .u32 p.l0, .int .u32 p.l1, .int .u32 p.l2] 30)) #[.int .u32 t.e, .int .i64 t.d, .int .u32 t.l0, .int .u32 t.l1, .int .u32 t.l2] 49).alloc (.cells #[.int .u32 u.e, .int .i64 u.d, .int .u32 u.l0, .int .u32 u.l1, .int .u32 u.l2] 49)
  have hu : Row (((w.alloc (.cells #[.int .i64 p.f, .int .i64 p.k, .int .u32 p.a0, .int .u32 p.a1, .int .u32 p.a2, .int .u32 p.a3, .int .i64 p.u, .int .u32 p.l0, .int .u32 p.l1, .int .u32 p.l2] 30)).alloc (.cells #[.int .u32 t.e, .int .i64 t.d, .int .u32 t.l0, .int .u32 t.l1, .int .u32 t.l2] 49)).alloc (.cells #[.int .u32 u.e, .int .i64 u.d, .int .u32 u.l0, .int .u32 u.l1, .int .u32 u.l2] 49)) (w.heap.size + 1 + 1) #[.int .u32 u.e, .int .i64 u.d, .int .u32 u.l0, .int .u32 u.l1, .int .u32 u.l2] 49 := by simpa using Row.new ((w.alloc (.cells #[.int .i64 p.f, .int .i64 p.k, .int .u32 p.a0, .int .u32 p.a1, .int .u32 p.a2, .int .u32 p.a3, .int .i64 p.u, .int .u32 p.l0, .int .u32 p.l1, .int .u32 p.l2] 30)).alloc (.cells #[.int .u32 t.e, .int .i64 t.d, .int .u32 t.l0, .int .u32 t.l1, .int .u32 t.l2] 49)) #[.int .u32 u.e, .int .i64 u.d, .int .u32 u.l0, .int .u32 u.l1, .int .u32 u.l2] 49
  have hz : Below w.heap.size w (((w.alloc (.cells #[.int .i64 p.f, .int .i64 p.k, .int .u32 p.a0, .int .u32 p.a1, .int .u32 p.a2, .int .u32 p.a3, .int .i64 p.u, .int .u32 p.l0, .int .u32 p.l1, .int .u32 p.l2] 30)).alloc (.cells #[.int .u32 t.e, .int .i64 t.d, .int .u32 t.l0, .int .u32 t.l1, .int .u32 t.l2] 49)).alloc (.cells #[.int .u32 u.e, .int .i64 u.d, .int .u32 u.l0, .int .u32 u.l1, .int .u32 u.l2] 49)) := below_of (below_of (below_new _ _) (below_new _ _)) (below_new _ _)
  have HZ := Lib.hid hz
  clear hz
  generalize (((w.alloc (.cells #[.int .i64 p.f, .int .i64 p.k, .int .u32 p.a0, .int .u32 p.a1, .int .u32 p.a2, .int .u32 p.a3, .int .i64 p.u, .int .u32 p.l0, .int .u32 p.l1, .int .u32 p.l2] 30)).alloc (.cells #[.int .u32 t.e, .int .i64 t.d, .int .u32 t.l0, .int .u32 t.l1, .int .u32 t.l2] 49)).alloc (.cells #[.int .u32 u.e, .int .i64 u.d, .int .u32 u.l0, .int .u32 u.l1, .int .u32 u.l2] 49)) = wc at hp ht hu HZ ⊢
  generalize w.heap.size = Bp at hp ht hu ⊢
  generalize Bp + 1 = Bt at ht hu ⊢
  generalize Bt + 1 = Bu at hu ⊢
  have hz := HZ.out
  clear HZ
  go_upto_region 3 with (go_at_call 37; (with_reducible refine (works_any _).mono ?_); rintro e' w1 ⟨rfl, hb1⟩; replace hp := hp.below hb1; replace ht := ht.below hb1; replace hu := hu.below hb1; replace hz := below_of hz hb1; clear hb1)
  clear wc
  obtain ⟨wc, rfl⟩ : ∃ wc, wc = w1 := ⟨_, rfl⟩
  have Hhp := Lib.hid hp
  have Hht := Lib.hid ht
  have Hhu := Lib.hid hu
  clear hp ht hu
  refine region_gen (AC wc 7 8 #[.int .u32 0, .int .i64 0, .int .u32 0, .int .u32 0, .int .u32 0] #[.int .u32 x.e, .int .i64 x.d, .int .u32 x.l0, .int .u32 x.l1, .int .u32 x.l2] 49) (by kernel_rfl) (by kernel_rfl) (AC.start _ _ _ _ _ _) ?_
  repeat
    (refine step_gen (by decide) (by rfl) (fun K hK => ?_)
     go_simp
     first
       | (with_reducible apply H1.one
          · intro σ wv hk hd hv
            have Hv := Lib.hid hv
            have qp := Hhp.out.below hv.b
            obtain ⟨p_0, p_1, p_2, p_3, p_4, p_5, p_6, p_7, p_8, p_9, p_f⟩ := qp.ten
            clear qp
            have qt := Hht.out.below hv.b
            obtain ⟨t_0, t_1, t_2, t_3, t_4, t_f⟩ := qt.atTm
            clear qt
            try (have z_ := (hv.row (hd.get 7 (List.mem_cons_self ..) (by kernel_rfl)) hk).2; obtain ⟨x_0, x_1, x_2, x_3, x_4, x_f⟩ := z_.atTm; clear z_)
            clear hv
            go_simp
            (first
              | (go_at_call 23; (with_reducible refine (law_to p _).mono ?_); rintro e' w1 ⟨rfl, hb1⟩; exact ⟨_, rfl, rfl, Hv.out.call hb1 (by decide) (by decide)⟩)
              | (go_at_call 33; (with_reducible refine (apply_any p t _ OP.out OT.out _ _ HX.out).mono ?_); rintro e' w1 ⟨rfl, hb1⟩; exact ⟨_, rfl, rfl, Hv.out.call hb1 (by decide) (by decide)⟩)
              | (with_reducible refine ⟨rfl, ?_⟩; first | (with_reducible exact AC.pure Hv.out (by decide) (by decide)) | (with_reducible exact AC.store5 Hv.out (hd.get 7 (List.mem_cons_self ..) (by kernel_rfl)) hk (by decide))))
          refine hK _ _ _ ?_
          clear hK K)
       | (with_reducible refine H1.any IsPtr ⟨_, IsPtr.mk 0⟩ ?_ ?_
          · intro σ wv hk hd hv
            have Hv := Lib.hid hv
            go_simp
            exact ⟨IsPtr.mk _, Hv.out.alloc hk (by decide)⟩
          intro v_ hv_
          obtain ⟨X, rfl⟩ := hv_
          refine hK _ _ _ ?_
          clear hK K)
       | (with_reducible apply Sk.of
          · (intro σ wv hk hv; exact hv.pure (by decide) (by decide))
          refine hK _ _ _ ?_
          clear hK K))
  refine nil_gen ?_
  intro σ wn hσ hT hq
  obtain ⟨hbn, hx⟩ := hq.done hσ (by decide) (hT _ (List.mem_cons_self ..))
  clear hσ hT hq
  have hp := Hhp.out.below hbn
  have ht := Hht.out.below hbn
  have hu := Hhu.out.below hbn
  replace hz := below_of hz hbn
  clear Hhp Hht Hhu hbn wc
  obtain ⟨wc, rfl⟩ : ∃ wc, wc = wn := ⟨_, rfl⟩
  go_upto_region 4 with (fail)
  have Hhp := Lib.hid hp
  have Hht := Lib.hid ht
  have Hhu := Lib.hid hu
  have Hhx := Lib.hid hx
  clear hp ht hu hx
  refine region_gen (AC wc 7 8 #[.int .u32 0, .int .i64 0, .int .u32 0, .int .u32 0, .int .u32 0] #[.int .u32 y.e, .int .i64 y.d, .int .u32 y.l0, .int .u32 y.l1, .int .u32 y.l2] 49) (by kernel_rfl) (by kernel_rfl) (AC.start _ _ _ _ _ _) ?_
  repeat
    (refine step_gen (by decide) (by rfl) (fun K hK => ?_)
     go_simp
     first
       | (with_reducible apply H1.one
          · intro σ wv hk hd hv
            have Hv := Lib.hid hv
            have qp := Hhp.out.below hv.b
            obtain ⟨p_0, p_1, p_2, p_3, p_4, p_5, p_6, p_7, p_8, p_9, p_f⟩ := qp.ten
            clear qp
            have qu := Hhu.out.below hv.b
            obtain ⟨u_0, u_1, u_2, u_3, u_4, u_f⟩ := qu.atTm
            clear qu
            try (have z_ := (hv.row (hd.get 7 (List.mem_cons_self ..) (by kernel_rfl)) hk).2; obtain ⟨x_0, x_1, x_2, x_3, x_4, x_f⟩ := z_.atTm; clear z_)
            clear hv
            go_simp
            (first
              | (go_at_call 23; (with_reducible refine (law_to p _).mono ?_); rintro e' w1 ⟨rfl, hb1⟩; exact ⟨_, rfl, rfl, Hv.out.call hb1 (by decide) (by decide)⟩)
              | (go_at_call 33; (with_reducible refine (apply_any p u _ OP.out OU.out _ _ HY.out).mono ?_); rintro e' w1 ⟨rfl, hb1⟩; exact ⟨_, rfl, rfl, Hv.out.call hb1 (by decide) (by decide)⟩)
              | (with_reducible refine ⟨rfl, ?_⟩; first | (with_reducible exact AC.pure Hv.out (by decide) (by decide)) | (with_reducible exact AC.store5 Hv.out (hd.get 7 (List.mem_cons_self ..) (by kernel_rfl)) hk (by decide))))
          refine hK _ _ _ ?_
          clear hK K)
       | (with_reducible refine H1.any IsPtr ⟨_, IsPtr.mk 0⟩ ?_ ?_
          · intro σ wv hk hd hv
            have Hv := Lib.hid hv
            go_simp
            exact ⟨IsPtr.mk _, Hv.out.alloc hk (by decide)⟩
          intro v_ hv_
          obtain ⟨X, rfl⟩ := hv_
          refine hK _ _ _ ?_
          clear hK K)
       | (with_reducible apply Sk.of
          · (intro σ wv hk hv; exact hv.pure (by decide) (by decide))
          refine hK _ _ _ ?_
          clear hK K))
  refine nil_gen ?_
  intro σ wn hσ hT hq
  obtain ⟨hbn, hy⟩ := hq.done hσ (by decide) (hT _ (List.mem_cons_self ..))
  clear hσ hT hq
  have hp := Hhp.out.below hbn
  have ht := Hht.out.below hbn
  have hu := Hhu.out.below hbn
  have hx := Hhx.out.below hbn
  replace hz := below_of hz hbn
  clear Hhp Hht Hhu Hhx hbn wc
  obtain ⟨wc, rfl⟩ : ∃ wc, wc = wn := ⟨_, rfl⟩
  by_cases hc : c = 0
  · subst hc
    by_cases hd : d = 0
    · subst hd
      obtain ⟨l1, h_⟩ : ∃ r, tleR t u = r := ⟨_, rfl⟩
      have HL1 := Lib.hid h_
      clear h_
      obtain ⟨ri, h_⟩ : ∃ r, risesR p = r := ⟨_, rfl⟩
      have HRI := Lib.hid h_
      clear h_
      rcases l1 with _ | _
      · rcases ri with _ | _
        · obtain ⟨p_0, p_1, p_2, p_3, p_4, p_5, p_6, p_7, p_8, p_9, p_f⟩ := hp.ten
          obtain ⟨t_0, t_1, t_2, t_3, t_4, t_f⟩ := ht.atTm
          obtain ⟨u_0, u_1, u_2, u_3, u_4, u_f⟩ := hu.atTm
          obtain ⟨x_0, x_1, x_2, x_3, x_4, x_f⟩ := hx.atTm
          obtain ⟨y_0, y_1, y_2, y_3, y_4, y_f⟩ := hy.atTm
          go_wp2_with (first | (go_at_call 39; (with_reducible refine (tle_any t u _).mono ?_); rw [HL1.out]; rintro e' w1 ⟨rfl, hb1⟩; replace hp := hp.below hb1; replace ht := ht.below hb1; replace hu := hu.below hb1; replace hx := hx.below hb1; replace hy := hy.below hb1; replace hz := below_of hz hb1; clear hb1; clear p_0 p_1 p_2 p_3 p_4 p_5 p_6 p_7 p_8 p_9 p_f t_0 t_1 t_2 t_3 t_4 t_f u_0 u_1 u_2 u_3 u_4 u_f x_0 x_1 x_2 x_3 x_4 x_f y_0 y_1 y_2 y_3 y_4 y_f; obtain ⟨p_0, p_1, p_2, p_3, p_4, p_5, p_6, p_7, p_8, p_9, p_f⟩ := hp.ten; obtain ⟨t_0, t_1, t_2, t_3, t_4, t_f⟩ := ht.atTm; obtain ⟨u_0, u_1, u_2, u_3, u_4, u_f⟩ := hu.atTm; obtain ⟨x_0, x_1, x_2, x_3, x_4, x_f⟩ := hx.atTm; obtain ⟨y_0, y_1, y_2, y_3, y_4, y_f⟩ := hy.atTm) | (go_at_call 23; (with_reducible refine (law_to p _).mono ?_); rintro e' w1 ⟨rfl, hb1⟩; replace hp := hp.below hb1; replace ht := ht.below hb1; replace hu := hu.below hb1; replace hx := hx.below hb1; replace hy := hy.below hb1; replace hz := below_of hz hb1; clear hb1; clear p_0 p_1 p_2 p_3 p_4 p_5 p_6 p_7 p_8 p_9 p_f t_0 t_1 t_2 t_3 t_4 t_f u_0 u_1 u_2 u_3 u_4 u_f x_0 x_1 x_2 x_3 x_4 x_f y_0 y_1 y_2 y_3 y_4 y_f; obtain ⟨p_0, p_1, p_2, p_3, p_4, p_5, p_6, p_7, p_8, p_9, p_f⟩ := hp.ten; obtain ⟨t_0, t_1, t_2, t_3, t_4, t_f⟩ := ht.atTm; obtain ⟨u_0, u_1, u_2, u_3, u_4, u_f⟩ := hu.atTm; obtain ⟨x_0, x_1, x_2, x_3, x_4, x_f⟩ := hx.atTm; obtain ⟨y_0, y_1, y_2, y_3, y_4, y_f⟩ := hy.atTm) | (go_at_call 27; (with_reducible refine (rises_any p _).mono ?_); rw [HRI.out]; rintro e' w1 ⟨rfl, hb1⟩; replace hp := hp.below hb1; replace ht := ht.below hb1; replace hu := hu.below hb1; replace hx := hx.below hb1; replace hy := hy.below hb1; replace hz := below_of hz hb1; clear hb1; clear p_0 p_1 p_2 p_3 p_4 p_5 p_6 p_7 p_8 p_9 p_f t_0 t_1 t_2 t_3 t_4 t_f u_0 u_1 u_2 u_3 u_4 u_f x_0 x_1 x_2 x_3 x_4 x_f y_0 y_1 y_2 y_3 y_4 y_f; obtain ⟨p_0, p_1, p_2, p_3, p_4, p_5, p_6, p_7, p_8, p_9, p_f⟩ := hp.ten; obtain ⟨t_0, t_1, t_2, t_3, t_4, t_f⟩ := ht.atTm; obtain ⟨u_0, u_1, u_2, u_3, u_4, u_f⟩ := hu.atTm; obtain ⟨x_0, x_1, x_2, x_3, x_4, x_f⟩ := hx.atTm; obtain ⟨y_0, y_1, y_2, y_3, y_4, y_f⟩ := hy.atTm))
          go_ret
          exact ⟨rfl, hz⟩
        · have hr := rise_law OP.out (by rw [HX.out]) HRI.out
          rw [HX.out] at hr
          have HR1 := Lib.hid hr.1
          have HR2 := Lib.hid hr.2
          clear hr
          obtain ⟨p_0, p_1, p_2, p_3, p_4, p_5, p_6, p_7, p_8, p_9, p_f⟩ := hp.ten
          obtain ⟨t_0, t_1, t_2, t_3, t_4, t_f⟩ := ht.atTm
          obtain ⟨u_0, u_1, u_2, u_3, u_4, u_f⟩ := hu.atTm
          obtain ⟨x_0, x_1, x_2, x_3, x_4, x_f⟩ := hx.atTm
          obtain ⟨y_0, y_1, y_2, y_3, y_4, y_f⟩ := hy.atTm
          go_wp2_with (first | (go_at_call 39; (with_reducible refine (tle_any t u _).mono ?_); rw [HL1.out]; rintro e' w1 ⟨rfl, hb1⟩; replace hp := hp.below hb1; replace ht := ht.below hb1; replace hu := hu.below hb1; replace hx := hx.below hb1; replace hy := hy.below hb1; replace hz := below_of hz hb1; clear hb1; clear p_0 p_1 p_2 p_3 p_4 p_5 p_6 p_7 p_8 p_9 p_f t_0 t_1 t_2 t_3 t_4 t_f u_0 u_1 u_2 u_3 u_4 u_f x_0 x_1 x_2 x_3 x_4 x_f y_0 y_1 y_2 y_3 y_4 y_f; obtain ⟨p_0, p_1, p_2, p_3, p_4, p_5, p_6, p_7, p_8, p_9, p_f⟩ := hp.ten; obtain ⟨t_0, t_1, t_2, t_3, t_4, t_f⟩ := ht.atTm; obtain ⟨u_0, u_1, u_2, u_3, u_4, u_f⟩ := hu.atTm; obtain ⟨x_0, x_1, x_2, x_3, x_4, x_f⟩ := hx.atTm; obtain ⟨y_0, y_1, y_2, y_3, y_4, y_f⟩ := hy.atTm) | (go_at_call 23; (with_reducible refine (law_to p _).mono ?_); rintro e' w1 ⟨rfl, hb1⟩; replace hp := hp.below hb1; replace ht := ht.below hb1; replace hu := hu.below hb1; replace hx := hx.below hb1; replace hy := hy.below hb1; replace hz := below_of hz hb1; clear hb1; clear p_0 p_1 p_2 p_3 p_4 p_5 p_6 p_7 p_8 p_9 p_f t_0 t_1 t_2 t_3 t_4 t_f u_0 u_1 u_2 u_3 u_4 u_f x_0 x_1 x_2 x_3 x_4 x_f y_0 y_1 y_2 y_3 y_4 y_f; obtain ⟨p_0, p_1, p_2, p_3, p_4, p_5, p_6, p_7, p_8, p_9, p_f⟩ := hp.ten; obtain ⟨t_0, t_1, t_2, t_3, t_4, t_f⟩ := ht.atTm; obtain ⟨u_0, u_1, u_2, u_3, u_4, u_f⟩ := hu.atTm; obtain ⟨x_0, x_1, x_2, x_3, x_4, x_f⟩ := hx.atTm; obtain ⟨y_0, y_1, y_2, y_3, y_4, y_f⟩ := hy.atTm) | (go_at_call 27; (with_reducible refine (rises_any p _).mono ?_); rw [HRI.out]; rintro e' w1 ⟨rfl, hb1⟩; replace hp := hp.below hb1; replace ht := ht.below hb1; replace hu := hu.below hb1; replace hx := hx.below hb1; replace hy := hy.below hb1; replace hz := below_of hz hb1; clear hb1; clear p_0 p_1 p_2 p_3 p_4 p_5 p_6 p_7 p_8 p_9 p_f t_0 t_1 t_2 t_3 t_4 t_f u_0 u_1 u_2 u_3 u_4 u_f x_0 x_1 x_2 x_3 x_4 x_f y_0 y_1 y_2 y_3 y_4 y_f; obtain ⟨p_0, p_1, p_2, p_3, p_4, p_5, p_6, p_7, p_8, p_9, p_f⟩ := hp.ten; obtain ⟨t_0, t_1, t_2, t_3, t_4, t_f⟩ := ht.atTm; obtain ⟨u_0, u_1, u_2, u_3, u_4, u_f⟩ := hu.atTm; obtain ⟨x_0, x_1, x_2, x_3, x_4, x_f⟩ := hx.atTm; obtain ⟨y_0, y_1, y_2, y_3, y_4, y_f⟩ := hy.atTm) | (go_at_call 39; (with_reducible refine (tle_any t x _).mono ?_); rw [HR1.out]; rintro e' w1 ⟨rfl, hb1⟩; replace hp := hp.below hb1; replace ht := ht.below hb1; replace hu := hu.below hb1; replace hx := hx.below hb1; replace hy := hy.below hb1; replace hz := below_of hz hb1; clear hb1; clear p_0 p_1 p_2 p_3 p_4 p_5 p_6 p_7 p_8 p_9 p_f t_0 t_1 t_2 t_3 t_4 t_f u_0 u_1 u_2 u_3 u_4 u_f x_0 x_1 x_2 x_3 x_4 x_f y_0 y_1 y_2 y_3 y_4 y_f; obtain ⟨p_0, p_1, p_2, p_3, p_4, p_5, p_6, p_7, p_8, p_9, p_f⟩ := hp.ten; obtain ⟨t_0, t_1, t_2, t_3, t_4, t_f⟩ := ht.atTm; obtain ⟨u_0, u_1, u_2, u_3, u_4, u_f⟩ := hu.atTm; obtain ⟨x_0, x_1, x_2, x_3, x_4, x_f⟩ := hx.atTm; obtain ⟨y_0, y_1, y_2, y_3, y_4, y_f⟩ := hy.atTm) | (go_at_call 39; (with_reducible refine (tle_any x t _).mono ?_); rw [HR2.out]; rintro e' w1 ⟨rfl, hb1⟩; replace hp := hp.below hb1; replace ht := ht.below hb1; replace hu := hu.below hb1; replace hx := hx.below hb1; replace hy := hy.below hb1; replace hz := below_of hz hb1; clear hb1; clear p_0 p_1 p_2 p_3 p_4 p_5 p_6 p_7 p_8 p_9 p_f t_0 t_1 t_2 t_3 t_4 t_f u_0 u_1 u_2 u_3 u_4 u_f x_0 x_1 x_2 x_3 x_4 x_f y_0 y_1 y_2 y_3 y_4 y_f; obtain ⟨p_0, p_1, p_2, p_3, p_4, p_5, p_6, p_7, p_8, p_9, p_f⟩ := hp.ten; obtain ⟨t_0, t_1, t_2, t_3, t_4, t_f⟩ := ht.atTm; obtain ⟨u_0, u_1, u_2, u_3, u_4, u_f⟩ := hu.atTm; obtain ⟨x_0, x_1, x_2, x_3, x_4, x_f⟩ := hx.atTm; obtain ⟨y_0, y_1, y_2, y_3, y_4, y_f⟩ := hy.atTm))
          go_ret
          exact ⟨rfl, hz⟩
      · have hl := along_law OP.out (by rw [HX.out]) (by rw [HY.out]) HL1.out
        rw [HX.out, HY.out] at hl
        have HL2 := Lib.hid hl
        clear hl
        rcases ri with _ | _
        · obtain ⟨p_0, p_1, p_2, p_3, p_4, p_5, p_6, p_7, p_8, p_9, p_f⟩ := hp.ten
          obtain ⟨t_0, t_1, t_2, t_3, t_4, t_f⟩ := ht.atTm
          obtain ⟨u_0, u_1, u_2, u_3, u_4, u_f⟩ := hu.atTm
          obtain ⟨x_0, x_1, x_2, x_3, x_4, x_f⟩ := hx.atTm
          obtain ⟨y_0, y_1, y_2, y_3, y_4, y_f⟩ := hy.atTm
          go_wp2_with (first | (go_at_call 39; (with_reducible refine (tle_any t u _).mono ?_); rw [HL1.out]; rintro e' w1 ⟨rfl, hb1⟩; replace hp := hp.below hb1; replace ht := ht.below hb1; replace hu := hu.below hb1; replace hx := hx.below hb1; replace hy := hy.below hb1; replace hz := below_of hz hb1; clear hb1; clear p_0 p_1 p_2 p_3 p_4 p_5 p_6 p_7 p_8 p_9 p_f t_0 t_1 t_2 t_3 t_4 t_f u_0 u_1 u_2 u_3 u_4 u_f x_0 x_1 x_2 x_3 x_4 x_f y_0 y_1 y_2 y_3 y_4 y_f; obtain ⟨p_0, p_1, p_2, p_3, p_4, p_5, p_6, p_7, p_8, p_9, p_f⟩ := hp.ten; obtain ⟨t_0, t_1, t_2, t_3, t_4, t_f⟩ := ht.atTm; obtain ⟨u_0, u_1, u_2, u_3, u_4, u_f⟩ := hu.atTm; obtain ⟨x_0, x_1, x_2, x_3, x_4, x_f⟩ := hx.atTm; obtain ⟨y_0, y_1, y_2, y_3, y_4, y_f⟩ := hy.atTm) | (go_at_call 39; (with_reducible refine (tle_any x y _).mono ?_); rw [HL2.out]; rintro e' w1 ⟨rfl, hb1⟩; replace hp := hp.below hb1; replace ht := ht.below hb1; replace hu := hu.below hb1; replace hx := hx.below hb1; replace hy := hy.below hb1; replace hz := below_of hz hb1; clear hb1; clear p_0 p_1 p_2 p_3 p_4 p_5 p_6 p_7 p_8 p_9 p_f t_0 t_1 t_2 t_3 t_4 t_f u_0 u_1 u_2 u_3 u_4 u_f x_0 x_1 x_2 x_3 x_4 x_f y_0 y_1 y_2 y_3 y_4 y_f; obtain ⟨p_0, p_1, p_2, p_3, p_4, p_5, p_6, p_7, p_8, p_9, p_f⟩ := hp.ten; obtain ⟨t_0, t_1, t_2, t_3, t_4, t_f⟩ := ht.atTm; obtain ⟨u_0, u_1, u_2, u_3, u_4, u_f⟩ := hu.atTm; obtain ⟨x_0, x_1, x_2, x_3, x_4, x_f⟩ := hx.atTm; obtain ⟨y_0, y_1, y_2, y_3, y_4, y_f⟩ := hy.atTm) | (go_at_call 23; (with_reducible refine (law_to p _).mono ?_); rintro e' w1 ⟨rfl, hb1⟩; replace hp := hp.below hb1; replace ht := ht.below hb1; replace hu := hu.below hb1; replace hx := hx.below hb1; replace hy := hy.below hb1; replace hz := below_of hz hb1; clear hb1; clear p_0 p_1 p_2 p_3 p_4 p_5 p_6 p_7 p_8 p_9 p_f t_0 t_1 t_2 t_3 t_4 t_f u_0 u_1 u_2 u_3 u_4 u_f x_0 x_1 x_2 x_3 x_4 x_f y_0 y_1 y_2 y_3 y_4 y_f; obtain ⟨p_0, p_1, p_2, p_3, p_4, p_5, p_6, p_7, p_8, p_9, p_f⟩ := hp.ten; obtain ⟨t_0, t_1, t_2, t_3, t_4, t_f⟩ := ht.atTm; obtain ⟨u_0, u_1, u_2, u_3, u_4, u_f⟩ := hu.atTm; obtain ⟨x_0, x_1, x_2, x_3, x_4, x_f⟩ := hx.atTm; obtain ⟨y_0, y_1, y_2, y_3, y_4, y_f⟩ := hy.atTm) | (go_at_call 27; (with_reducible refine (rises_any p _).mono ?_); rw [HRI.out]; rintro e' w1 ⟨rfl, hb1⟩; replace hp := hp.below hb1; replace ht := ht.below hb1; replace hu := hu.below hb1; replace hx := hx.below hb1; replace hy := hy.below hb1; replace hz := below_of hz hb1; clear hb1; clear p_0 p_1 p_2 p_3 p_4 p_5 p_6 p_7 p_8 p_9 p_f t_0 t_1 t_2 t_3 t_4 t_f u_0 u_1 u_2 u_3 u_4 u_f x_0 x_1 x_2 x_3 x_4 x_f y_0 y_1 y_2 y_3 y_4 y_f; obtain ⟨p_0, p_1, p_2, p_3, p_4, p_5, p_6, p_7, p_8, p_9, p_f⟩ := hp.ten; obtain ⟨t_0, t_1, t_2, t_3, t_4, t_f⟩ := ht.atTm; obtain ⟨u_0, u_1, u_2, u_3, u_4, u_f⟩ := hu.atTm; obtain ⟨x_0, x_1, x_2, x_3, x_4, x_f⟩ := hx.atTm; obtain ⟨y_0, y_1, y_2, y_3, y_4, y_f⟩ := hy.atTm))
          go_ret
          exact ⟨rfl, hz⟩
        · have hr := rise_law OP.out (by rw [HX.out]) HRI.out
          rw [HX.out] at hr
          have HR1 := Lib.hid hr.1
          have HR2 := Lib.hid hr.2
          clear hr
          obtain ⟨p_0, p_1, p_2, p_3, p_4, p_5, p_6, p_7, p_8, p_9, p_f⟩ := hp.ten
          obtain ⟨t_0, t_1, t_2, t_3, t_4, t_f⟩ := ht.atTm
          obtain ⟨u_0, u_1, u_2, u_3, u_4, u_f⟩ := hu.atTm
          obtain ⟨x_0, x_1, x_2, x_3, x_4, x_f⟩ := hx.atTm
          obtain ⟨y_0, y_1, y_2, y_3, y_4, y_f⟩ := hy.atTm
          go_wp2_with (first | (go_at_call 39; (with_reducible refine (tle_any t u _).mono ?_); rw [HL1.out]; rintro e' w1 ⟨rfl, hb1⟩; replace hp := hp.below hb1; replace ht := ht.below hb1; replace hu := hu.below hb1; replace hx := hx.below hb1; replace hy := hy.below hb1; replace hz := below_of hz hb1; clear hb1; clear p_0 p_1 p_2 p_3 p_4 p_5 p_6 p_7 p_8 p_9 p_f t_0 t_1 t_2 t_3 t_4 t_f u_0 u_1 u_2 u_3 u_4 u_f x_0 x_1 x_2 x_3 x_4 x_f y_0 y_1 y_2 y_3 y_4 y_f; obtain ⟨p_0, p_1, p_2, p_3, p_4, p_5, p_6, p_7, p_8, p_9, p_f⟩ := hp.ten; obtain ⟨t_0, t_1, t_2, t_3, t_4, t_f⟩ := ht.atTm; obtain ⟨u_0, u_1, u_2, u_3, u_4, u_f⟩ := hu.atTm; obtain ⟨x_0, x_1, x_2, x_3, x_4, x_f⟩ := hx.atTm; obtain ⟨y_0, y_1, y_2, y_3, y_4, y_f⟩ := hy.atTm) | (go_at_call 39; (with_reducible refine (tle_any x y _).mono ?_); rw [HL2.out]; rintro e' w1 ⟨rfl, hb1⟩; replace hp := hp.below hb1; replace ht := ht.below hb1; replace hu := hu.below hb1; replace hx := hx.below hb1; replace hy := hy.below hb1; replace hz := below_of hz hb1; clear hb1; clear p_0 p_1 p_2 p_3 p_4 p_5 p_6 p_7 p_8 p_9 p_f t_0 t_1 t_2 t_3 t_4 t_f u_0 u_1 u_2 u_3 u_4 u_f x_0 x_1 x_2 x_3 x_4 x_f y_0 y_1 y_2 y_3 y_4 y_f; obtain ⟨p_0, p_1, p_2, p_3, p_4, p_5, p_6, p_7, p_8, p_9, p_f⟩ := hp.ten; obtain ⟨t_0, t_1, t_2, t_3, t_4, t_f⟩ := ht.atTm; obtain ⟨u_0, u_1, u_2, u_3, u_4, u_f⟩ := hu.atTm; obtain ⟨x_0, x_1, x_2, x_3, x_4, x_f⟩ := hx.atTm; obtain ⟨y_0, y_1, y_2, y_3, y_4, y_f⟩ := hy.atTm) | (go_at_call 23; (with_reducible refine (law_to p _).mono ?_); rintro e' w1 ⟨rfl, hb1⟩; replace hp := hp.below hb1; replace ht := ht.below hb1; replace hu := hu.below hb1; replace hx := hx.below hb1; replace hy := hy.below hb1; replace hz := below_of hz hb1; clear hb1; clear p_0 p_1 p_2 p_3 p_4 p_5 p_6 p_7 p_8 p_9 p_f t_0 t_1 t_2 t_3 t_4 t_f u_0 u_1 u_2 u_3 u_4 u_f x_0 x_1 x_2 x_3 x_4 x_f y_0 y_1 y_2 y_3 y_4 y_f; obtain ⟨p_0, p_1, p_2, p_3, p_4, p_5, p_6, p_7, p_8, p_9, p_f⟩ := hp.ten; obtain ⟨t_0, t_1, t_2, t_3, t_4, t_f⟩ := ht.atTm; obtain ⟨u_0, u_1, u_2, u_3, u_4, u_f⟩ := hu.atTm; obtain ⟨x_0, x_1, x_2, x_3, x_4, x_f⟩ := hx.atTm; obtain ⟨y_0, y_1, y_2, y_3, y_4, y_f⟩ := hy.atTm) | (go_at_call 27; (with_reducible refine (rises_any p _).mono ?_); rw [HRI.out]; rintro e' w1 ⟨rfl, hb1⟩; replace hp := hp.below hb1; replace ht := ht.below hb1; replace hu := hu.below hb1; replace hx := hx.below hb1; replace hy := hy.below hb1; replace hz := below_of hz hb1; clear hb1; clear p_0 p_1 p_2 p_3 p_4 p_5 p_6 p_7 p_8 p_9 p_f t_0 t_1 t_2 t_3 t_4 t_f u_0 u_1 u_2 u_3 u_4 u_f x_0 x_1 x_2 x_3 x_4 x_f y_0 y_1 y_2 y_3 y_4 y_f; obtain ⟨p_0, p_1, p_2, p_3, p_4, p_5, p_6, p_7, p_8, p_9, p_f⟩ := hp.ten; obtain ⟨t_0, t_1, t_2, t_3, t_4, t_f⟩ := ht.atTm; obtain ⟨u_0, u_1, u_2, u_3, u_4, u_f⟩ := hu.atTm; obtain ⟨x_0, x_1, x_2, x_3, x_4, x_f⟩ := hx.atTm; obtain ⟨y_0, y_1, y_2, y_3, y_4, y_f⟩ := hy.atTm) | (go_at_call 39; (with_reducible refine (tle_any t x _).mono ?_); rw [HR1.out]; rintro e' w1 ⟨rfl, hb1⟩; replace hp := hp.below hb1; replace ht := ht.below hb1; replace hu := hu.below hb1; replace hx := hx.below hb1; replace hy := hy.below hb1; replace hz := below_of hz hb1; clear hb1; clear p_0 p_1 p_2 p_3 p_4 p_5 p_6 p_7 p_8 p_9 p_f t_0 t_1 t_2 t_3 t_4 t_f u_0 u_1 u_2 u_3 u_4 u_f x_0 x_1 x_2 x_3 x_4 x_f y_0 y_1 y_2 y_3 y_4 y_f; obtain ⟨p_0, p_1, p_2, p_3, p_4, p_5, p_6, p_7, p_8, p_9, p_f⟩ := hp.ten; obtain ⟨t_0, t_1, t_2, t_3, t_4, t_f⟩ := ht.atTm; obtain ⟨u_0, u_1, u_2, u_3, u_4, u_f⟩ := hu.atTm; obtain ⟨x_0, x_1, x_2, x_3, x_4, x_f⟩ := hx.atTm; obtain ⟨y_0, y_1, y_2, y_3, y_4, y_f⟩ := hy.atTm) | (go_at_call 39; (with_reducible refine (tle_any x t _).mono ?_); rw [HR2.out]; rintro e' w1 ⟨rfl, hb1⟩; replace hp := hp.below hb1; replace ht := ht.below hb1; replace hu := hu.below hb1; replace hx := hx.below hb1; replace hy := hy.below hb1; replace hz := below_of hz hb1; clear hb1; clear p_0 p_1 p_2 p_3 p_4 p_5 p_6 p_7 p_8 p_9 p_f t_0 t_1 t_2 t_3 t_4 t_f u_0 u_1 u_2 u_3 u_4 u_f x_0 x_1 x_2 x_3 x_4 x_f y_0 y_1 y_2 y_3 y_4 y_f; obtain ⟨p_0, p_1, p_2, p_3, p_4, p_5, p_6, p_7, p_8, p_9, p_f⟩ := hp.ten; obtain ⟨t_0, t_1, t_2, t_3, t_4, t_f⟩ := ht.atTm; obtain ⟨u_0, u_1, u_2, u_3, u_4, u_f⟩ := hu.atTm; obtain ⟨x_0, x_1, x_2, x_3, x_4, x_f⟩ := hx.atTm; obtain ⟨y_0, y_1, y_2, y_3, y_4, y_f⟩ := hy.atTm))
          go_ret
          exact ⟨rfl, hz⟩
    · have hdb : (d != 0) = true := by simp [hd]
      clear hd
      go_wp2
      go_ret
      exact ⟨rfl, hz⟩
  · have hcb : (c != 0) = true := by simp [hc]
    clear hc
    go_wp2
    go_ret
    exact ⟨rfl, hz⟩
end Go.Proofs.Ytfmnbkcjibhloaa
