/- PathGoes: what becomes of any time by any way, and any way behind any other one: the program and the reference say the same. Condition: counts of uint32's range. -/
import Derived.Test.YtfmnbkcjibhloaaLawLib
namespace Go.Proofs.Ytfmnbkcjibhloaa
open Go.RowKit
set_option linter.unusedVariables false
set_option linter.unusedSimpArgs false
attribute [local go_sem] eqA4 eqA3 G.upon_value G.upon_skip G.upon_enter G.runAt_run
open G
set_option maxRecDepth 100000 in
set_option maxHeartbeats 16000000 in
theorem goes_any (p q : Pa) (t : Tm) (w : World) (okp : PaOk p) (okq : PaOk q) (okt : TmOk t) : Calls Try.prog 5 #[.agg #[.int .i64 p.f, .int .i64 p.k, .int .u32 p.a0, .int .u32 p.a1, .int .u32 p.a2, .int .u32 p.a3, .int .i64 p.u, .int .u32 p.l0, .int .u32 p.l1, .int .u32 p.l2], .agg #[.int .i64 q.f, .int .i64 q.k, .int .u32 q.a0, .int .u32 q.a1, .int .u32 q.a2, .int .u32 q.a3, .int .i64 q.u, .int .u32 q.l0, .int .u32 q.l1, .int .u32 q.l2], .agg #[.int .u32 t.e, .int .i64 t.d, .int .u32 t.l0, .int .u32 t.l1, .int .u32 t.l2]] w fun e' w' => e' = .returned (.bool true) ∧ Below w.heap.size w w' := by
  obtain ⟨⟨x, c⟩, hx⟩ : ∃ xc, applyR p t = xc := ⟨_, rfl⟩
  obtain ⟨⟨y, d⟩, hy⟩ : ∃ xc, thenR p q = xc := ⟨_, rfl⟩
  have HX := Lib.hid hx
  have HY := Lib.hid hy
  have OP := Lib.hid okp
  have OQ := Lib.hid okq
  have OT := Lib.hid okt
  clear hx hy okp okq okt
  go_enter Try.func5, Try.ntmps5
  go_upto_region 1 with (fail)
  have hp : Row (((w.alloc (.cells #[.int .i64 p.f, .int .i64 p.k, .int .u32 p.a0, .int .u32 p.a1, .int .u32 p.a2, .int .u32 p.a3, .int .i64 p.u, .int .u32 p.l0, .int .u32 p.l1, .int .u32 p.l2] 30)).alloc (.cells #[.int .i64 q.f, .int .i64 q.k, .int .u32 q.a0, .int .u32 q.a1, .int .u32 q.a2, .int .u32 q.a3, .int .i64 q.u, .int .u32 q.l0, .int .u32 q.l1, .int .u32 q.l2] 30)).alloc (.cells #[.int .u32 t.e, .int .i64 t.d, .int .u32 t.l0, .int .u32 t.l1, .int .u32 t.l2] 49)) w.heap.size #[.int .i64 p.f, .int .i64 p.k, .int .u32 p.a0, .int .u32 p.a1, .int .u32 p.a2, .int .u32 p.a3, .int .i64 p.u, .int .u32 p.l0, .int .u32 p.l1, .int .u32 p.l2] 30 := ((Row.new w _ 30).alloc _).alloc _
  have hq : Row (((w.alloc (.cells #[.int .i64 p.f, .int .i64 p.k, .int .u32 p.a0, .int .u32 p.a1, .int .u32 p.a2, .int .u32 p.a3, .int .i64 p.u, .int .u32 p.l0, .int .u32 p.l1, .int .u32 p.l2] 30)).alloc (.cells #[.int .i64 q.f, .int .i64 q.k, .int .u32 q.a0, .int .u32 q.a1, .int .u32 q.a2, .int .u32 q.a3, .int .i64 q.u, .int .u32 q.l0, .int .u32 q.l1, .int .u32 q.l2] 30)).alloc (.cells #[.int .u32 t.e, .int .i64 t.d, .int .u32 t.l0, .int .u32 t.l1, .int .u32 t.l2] 49)) (w.heap.size + 1) #[.int .i64 q.f, .int .i64 q.k, .int .u32 q.a0, .int .u32 q.a1, .int .u32 q.a2, .int .u32 q.a3, .int .i64 q.u, .int .u32 q.l0, .int .u32 q.l1, .int .u32 q.l2] 30 := by simpa using (Row.new (w.alloc (.cells #[.int .i64 p.f, .int .i64 p.k, .int .u32 p.a0, .int .u32 p.a1, .int .u32 p.a2, .int .u32 p.a3, .int .i64 p.u, .int .u32 p.l0, .int .u32 p.l1, .int .u32 p.l2] 30)) #[.int .i64 q.f, .int .i64 q.k, .int .u32 q.a0, .int .u32 q.a1, .int .u32 q.a2, .int .u32 q.a3, .int .i64 q.u, .int .u32 q.l0, .int .u32 q.l1, .int .u32 q.l2] 30).alloc (.cells #[.int .u32 t.e, .int .i64 t.d, .int .u32 t.l0, .int .u32 t.l1, .int .u32 t.l2] 49)
  have ht : Row (((w.alloc (.cells #[.int .i64 p.f, .int .i64 p.k, .int .u32 p.a0, .int .u32 p.a1, .int .u32 p.a2, .int .u32 p.a3, .int .i64 p.u, .int .u32 p.l0, .int .u32 p.l1, .int .u32 p.l2] 30)).alloc (.cells #[.int .i64 q.f, .int .i64 q.k, .int .u32 q.a0, .int .u32 q.a1, .int .u32 q.a2, .int .u32 q.a3, .int .i64 q.u, .int .u32 q.l0, .int .u32 q.l1, .int .u32 q.l2] 30)).alloc (.cells #[.int .u32 t.e, .int .i64 t.d, .int .u32 t.l0, .int .u32 t.l1, .int .u32 t.l2] 49)) (w.heap.size + 1 + 1) #[.int .u32 t.e, .int .i64 t.d, .int .u32 t.l0, .int .u32 t.l1, .int .u32 t.l2] 49 := by simpa using Row.new ((w.alloc (.cells #[.int .i64 p.f, .int .i64 p.k, .int .u32 p.a0, .int .u32 p.a1, .int .u32 p.a2, .int .u32 p.a3, .int .i64 p.u, .int .u32 p.l0, .int .u32 p.l1, .int .u32 p.l2] 30)).alloc (.cells #[.int .i64 q.f, .int .i64 q.k, .int .u32 q.a0, .int .u32 q.a1, .int .u32 q.a2, .int .u32 q.a3, .int .i64 q.u, .int .u32 q.l0, .int .u32 q.l1, .int .u32 q.l2] 30)) #[.int .u32 t.e, .int .i64 t.d, .int .u32 t.l0, .int .u32 t.l1, .int .u32 t.l2] 49
  have hz : Below w.heap.size w (((w.alloc (.cells #[.int .i64 p.f, .int .i64 p.k, .int .u32 p.a0, .int .u32 p.a1, .int .u32 p.a2, .int .u32 p.a3, .int .i64 p.u, .int .u32 p.l0, .int .u32 p.l1, .int .u32 p.l2] 30)).alloc (.cells #[.int .i64 q.f, .int .i64 q.k, .int .u32 q.a0, .int .u32 q.a1, .int .u32 q.a2, .int .u32 q.a3, .int .i64 q.u, .int .u32 q.l0, .int .u32 q.l1, .int .u32 q.l2] 30)).alloc (.cells #[.int .u32 t.e, .int .i64 t.d, .int .u32 t.l0, .int .u32 t.l1, .int .u32 t.l2] 49)) := below_of (below_of (below_new _ _) (below_new _ _)) (below_new _ _)
  generalize ((w.alloc (.cells #[.int .i64 p.f, .int .i64 p.k, .int .u32 p.a0, .int .u32 p.a1, .int .u32 p.a2, .int .u32 p.a3, .int .i64 p.u, .int .u32 p.l0, .int .u32 p.l1, .int .u32 p.l2] 30)).alloc (.cells #[.int .i64 q.f, .int .i64 q.k, .int .u32 q.a0, .int .u32 q.a1, .int .u32 q.a2, .int .u32 q.a3, .int .i64 q.u, .int .u32 q.l0, .int .u32 q.l1, .int .u32 q.l2] 30)).alloc (.cells #[.int .u32 t.e, .int .i64 t.d, .int .u32 t.l0, .int .u32 t.l1, .int .u32 t.l2] 49) = wc at hp hq ht hz ⊢
  have HZ := Lib.hid hz
  clear hz
  generalize w.heap.size = A at hp hq ht ⊢
  generalize A + 1 = B at hq ht ⊢
  generalize B + 1 = T at ht ⊢
  have hz := HZ.out
  clear HZ
  have Hhp := Lib.hid hp
  have Hhq := Lib.hid hq
  have Hht := Lib.hid ht
  clear hp hq ht
  refine region_gen (AC wc 7 8 #[.int .u32 0, .int .i64 0, .int .u32 0, .int .u32 0, .int .u32 0] #[.int .u32 x.e, .int .i64 x.d, .int .u32 x.l0, .int .u32 x.l1, .int .u32 x.l2] 49) (by kernel_rfl) (by kernel_rfl) (AC.start _ _ _ _ _ _) ?_
  repeat
    (refine step_gen (by decide) (by rfl) (fun K hK => ?_)
     go_simp
     first
       | (with_reducible apply H1.one
          · intro σ wv hk hd hv
            have Hv := Lib.hid hv
            have qp := Hhp.out.below hv.b
            obtain ⟨p_0, p_1, p_2, p_3, p_4, p_5, p_6, p_7, p_8, p_9, p_f⟩ := qp.ten
            clear qp
            have qt := Hht.out.below hv.b
            obtain ⟨t_0, t_1, t_2, t_3, t_4, t_f⟩ := qt.atTm
            clear qt
            try (have z_ := (hv.row (hd.get 7 (List.mem_cons_self ..) (by kernel_rfl)) hk).2; obtain ⟨x_0, x_1, x_2, x_3, x_4, x_f⟩ := z_.atTm; clear z_)
            clear hv
            go_simp
            (first
              | (go_at_call 23; (with_reducible refine (law_to p _).mono ?_); rintro e' w1 ⟨rfl, hb1⟩; exact ⟨_, rfl, rfl, Hv.out.call hb1 (by decide) (by decide)⟩)
              | (go_at_call 33; (with_reducible refine (apply_any p t _ OP.out OT.out _ _ HX.out).mono ?_); rintro e' w1 ⟨rfl, hb1⟩; exact ⟨_, rfl, rfl, Hv.out.call hb1 (by decide) (by decide)⟩)
              | (with_reducible refine ⟨rfl, ?_⟩; first | (with_reducible exact AC.pure Hv.out (by decide) (by decide)) | (with_reducible exact AC.store5 Hv.out (hd.get 7 (List.mem_cons_self ..) (by kernel_rfl)) hk (by decide))))
          refine hK _ _ _ ?_
          clear hK K)
       | (with_reducible refine H1.any IsPtr ⟨_, IsPtr.mk 0⟩ ?_ ?_
          · intro σ wv hk hd hv
            have Hv := Lib.hid hv
            go_simp
            exact ⟨IsPtr.mk _, Hv.out.alloc hk (by decide)⟩
          intro v_ hv_
          obtain ⟨X, rfl⟩ := hv_
          refine hK _ _ _ ?_
          clear hK K)
       | (with_reducible apply Sk.of
          · (intro σ wv hk hv; exact hv.pure (by decide) (by decide))
          refine hK _ _ _ ?_
          clear hK K))
  refine nil_gen ?_
  intro σ wn hσ hT hq
  obtain ⟨hbn, hx⟩ := hq.done hσ (by decide) (hT _ (List.mem_cons_self ..))
  clear hσ hT hq
  have hp := Hhp.out.below hbn
  have hq := Hhq.out.below hbn
  have ht := Hht.out.below hbn
  replace hz := below_of hz hbn
  clear Hhp Hhq Hht hbn wc
  obtain ⟨wc, rfl⟩ : ∃ wc, wc = wn := ⟨_, rfl⟩
  go_upto_region 2 with (fail)
  obtain ⟨p_0, p_1, p_2, p_3, p_4, p_5, p_6, p_7, p_8, p_9, p_f⟩ := hp.ten
  obtain ⟨t_0, t_1, t_2, t_3, t_4, t_f⟩ := ht.atTm
  go_upto_region 3 with (go_at_call 34; (with_reducible refine (rapply_any p t _ OP.out OT.out _ _ HX.out).mono ?_); rintro e' w1 ⟨rfl, hb1⟩; replace hp := hp.below hb1; replace hq := hq.below hb1; replace ht := ht.below hb1; replace hx := hx.below hb1; replace hz := below_of hz hb1; clear hb1; clear p_0 p_1 p_2 p_3 p_4 p_5 p_6 p_7 p_8 p_9 p_f t_0 t_1 t_2 t_3 t_4 t_f)
  have hx2 := Row.new w1 #[.int .u32 x.e, .int .i64 x.d, .int .u32 x.l0, .int .u32 x.l1, .int .u32 x.l2] 49
  replace hp := hp.alloc (.cells #[.int .u32 x.e, .int .i64 x.d, .int .u32 x.l0, .int .u32 x.l1, .int .u32 x.l2] 49)
  replace hq := hq.alloc (.cells #[.int .u32 x.e, .int .i64 x.d, .int .u32 x.l0, .int .u32 x.l1, .int .u32 x.l2] 49)
  replace ht := ht.alloc (.cells #[.int .u32 x.e, .int .i64 x.d, .int .u32 x.l0, .int .u32 x.l1, .int .u32 x.l2] 49)
  replace hx := hx.alloc (.cells #[.int .u32 x.e, .int .i64 x.d, .int .u32 x.l0, .int .u32 x.l1, .int .u32 x.l2] 49)
  replace hz := below_of hz (below_new w1 (.cells #[.int .u32 x.e, .int .i64 x.d, .int .u32 x.l0, .int .u32 x.l1, .int .u32 x.l2] 49))
  generalize w1.heap.size = Xx2 at hx2 ⊢
  generalize w1.alloc (.cells #[.int .u32 x.e, .int .i64 x.d, .int .u32 x.l0, .int .u32 x.l1, .int .u32 x.l2] 49) = wd at hx2 hp hq ht hx hz ⊢
  clear wc
  obtain ⟨wc, rfl⟩ : ∃ wc, wc = wd := ⟨_, rfl⟩
  have Hhp := Lib.hid hp
  have Hhq := Lib.hid hq
  have Hht := Lib.hid ht
  have Hhx := Lib.hid hx
  have Hhx2 := Lib.hid hx2
  clear hp hq ht hx hx2
  refine region_gen (AC wc 8 9 #[.int .i64 0, .int .i64 0, .int .u32 0, .int .u32 0, .int .u32 0, .int .u32 0, .int .i64 0, .int .u32 0, .int .u32 0, .int .u32 0] #[.int .i64 y.f, .int .i64 y.k, .int .u32 y.a0, .int .u32 y.a1, .int .u32 y.a2, .int .u32 y.a3, .int .i64 y.u, .int .u32 y.l0, .int .u32 y.l1, .int .u32 y.l2] 26) (by kernel_rfl) (by kernel_rfl) (AC.start _ _ _ _ _ _) ?_
  repeat
    (refine step_gen (by decide) (by rfl) (fun K hK => ?_)
     go_simp
     first
       | (with_reducible apply H1.one
          · intro σ wv hk hd hv
            have Hv := Lib.hid hv
            have qp := Hhp.out.below hv.b
            obtain ⟨p_0, p_1, p_2, p_3, p_4, p_5, p_6, p_7, p_8, p_9, p_f⟩ := qp.ten
            clear qp
            have qq := Hhq.out.below hv.b
            obtain ⟨q_0, q_1, q_2, q_3, q_4, q_5, q_6, q_7, q_8, q_9, q_f⟩ := qq.ten
            clear qq
            try (have z_ := (hv.row (hd.get 8 (List.mem_cons_self ..) (by kernel_rfl)) hk).2; obtain ⟨x_0, x_1, x_2, x_3, x_4, x_5, x_6, x_7, x_8, x_9, x_f⟩ := z_.ten; clear z_)
            clear hv
            go_simp
            (first
              | (go_at_call 23; (with_reducible refine (law_to p _).mono ?_); rintro e' w1 ⟨rfl, hb1⟩; exact ⟨_, rfl, rfl, Hv.out.call hb1 (by decide) (by decide)⟩)
              | (go_at_call 23; (with_reducible refine (law_to q _).mono ?_); rintro e' w1 ⟨rfl, hb1⟩; exact ⟨_, rfl, rfl, Hv.out.call hb1 (by decide) (by decide)⟩)
              | (go_at_call 35; (with_reducible refine (then_any p q _ OP.out OQ.out _ _ HY.out).mono ?_); rintro e' w1 ⟨rfl, hb1⟩; exact ⟨_, rfl, rfl, Hv.out.call hb1 (by decide) (by decide)⟩)
              | (with_reducible refine ⟨rfl, ?_⟩; first | (with_reducible exact AC.pure Hv.out (by decide) (by decide)) | (with_reducible exact AC.store10 Hv.out (hd.get 8 (List.mem_cons_self ..) (by kernel_rfl)) hk (by decide))))
          refine hK _ _ _ ?_
          clear hK K)
       | (with_reducible refine H1.any IsPtr ⟨_, IsPtr.mk 0⟩ ?_ ?_
          · intro σ wv hk hd hv
            have Hv := Lib.hid hv
            go_simp
            exact ⟨IsPtr.mk _, Hv.out.alloc hk (by decide)⟩
          intro v_ hv_
          obtain ⟨X, rfl⟩ := hv_
          refine hK _ _ _ ?_
          clear hK K)
       | (with_reducible apply Sk.of
          · (intro σ wv hk hv; exact hv.pure (by decide) (by decide))
          refine hK _ _ _ ?_
          clear hK K))
  refine nil_gen ?_
  intro σ wn hσ hT hq
  obtain ⟨hbn, hy⟩ := hq.done hσ (by decide) (hT _ (List.mem_cons_self ..))
  clear hσ hT hq
  have hp := Hhp.out.below hbn
  have hq := Hhq.out.below hbn
  have ht := Hht.out.below hbn
  have hx := Hhx.out.below hbn
  have hx2 := Hhx2.out.below hbn
  replace hz := below_of hz hbn
  clear Hhp Hhq Hht Hhx Hhx2 hbn wc
  obtain ⟨wc, rfl⟩ : ∃ wc, wc = wn := ⟨_, rfl⟩
  go_upto_region 4 with (fail)
  obtain ⟨p_0, p_1, p_2, p_3, p_4, p_5, p_6, p_7, p_8, p_9, p_f⟩ := hp.ten
  obtain ⟨q_0, q_1, q_2, q_3, q_4, q_5, q_6, q_7, q_8, q_9, q_f⟩ := hq.ten
  go_upto_region 5 with (go_at_call 36; (with_reducible refine (rthen_any p q _ OP.out OQ.out _ _ HY.out).mono ?_); rintro e' w1 ⟨rfl, hb1⟩; replace hp := hp.below hb1; replace hq := hq.below hb1; replace ht := ht.below hb1; replace hx := hx.below hb1; replace hx2 := hx2.below hb1; replace hy := hy.below hb1; replace hz := below_of hz hb1; clear hb1; clear p_0 p_1 p_2 p_3 p_4 p_5 p_6 p_7 p_8 p_9 p_f q_0 q_1 q_2 q_3 q_4 q_5 q_6 q_7 q_8 q_9 q_f)
  have hy2 := Row.new w1 #[.int .i64 y.f, .int .i64 y.k, .int .u32 y.a0, .int .u32 y.a1, .int .u32 y.a2, .int .u32 y.a3, .int .i64 y.u, .int .u32 y.l0, .int .u32 y.l1, .int .u32 y.l2] 30
  replace hp := hp.alloc (.cells #[.int .i64 y.f, .int .i64 y.k, .int .u32 y.a0, .int .u32 y.a1, .int .u32 y.a2, .int .u32 y.a3, .int .i64 y.u, .int .u32 y.l0, .int .u32 y.l1, .int .u32 y.l2] 30)
  replace hq := hq.alloc (.cells #[.int .i64 y.f, .int .i64 y.k, .int .u32 y.a0, .int .u32 y.a1, .int .u32 y.a2, .int .u32 y.a3, .int .i64 y.u, .int .u32 y.l0, .int .u32 y.l1, .int .u32 y.l2] 30)
  replace ht := ht.alloc (.cells #[.int .i64 y.f, .int .i64 y.k, .int .u32 y.a0, .int .u32 y.a1, .int .u32 y.a2, .int .u32 y.a3, .int .i64 y.u, .int .u32 y.l0, .int .u32 y.l1, .int .u32 y.l2] 30)
  replace hx := hx.alloc (.cells #[.int .i64 y.f, .int .i64 y.k, .int .u32 y.a0, .int .u32 y.a1, .int .u32 y.a2, .int .u32 y.a3, .int .i64 y.u, .int .u32 y.l0, .int .u32 y.l1, .int .u32 y.l2] 30)
  replace hx2 := hx2.alloc (.cells #[.int .i64 y.f, .int .i64 y.k, .int .u32 y.a0, .int .u32 y.a1, .int .u32 y.a2, .int .u32 y.a3, .int .i64 y.u, .int .u32 y.l0, .int .u32 y.l1, .int .u32 y.l2] 30)
  replace hy := hy.alloc (.cells #[.int .i64 y.f, .int .i64 y.k, .int .u32 y.a0, .int .u32 y.a1, .int .u32 y.a2, .int .u32 y.a3, .int .i64 y.u, .int .u32 y.l0, .int .u32 y.l1, .int .u32 y.l2] 30)
  replace hz := below_of hz (below_new w1 (.cells #[.int .i64 y.f, .int .i64 y.k, .int .u32 y.a0, .int .u32 y.a1, .int .u32 y.a2, .int .u32 y.a3, .int .i64 y.u, .int .u32 y.l0, .int .u32 y.l1, .int .u32 y.l2] 30))
  generalize w1.heap.size = Xy2 at hy2 ⊢
  generalize w1.alloc (.cells #[.int .i64 y.f, .int .i64 y.k, .int .u32 y.a0, .int .u32 y.a1, .int .u32 y.a2, .int .u32 y.a3, .int .i64 y.u, .int .u32 y.l0, .int .u32 y.l1, .int .u32 y.l2] 30) = wd at hy2 hp hq ht hx hx2 hy hz ⊢
  clear wc
  obtain ⟨wc, rfl⟩ : ∃ wc, wc = wd := ⟨_, rfl⟩
  have Hhp := Lib.hid hp
  have Hhq := Lib.hid hq
  have Hht := Lib.hid ht
  have Hhx := Lib.hid hx
  have Hhx2 := Lib.hid hx2
  have Hhy := Lib.hid hy
  have Hhy2 := Lib.hid hy2
  clear hp hq ht hx hx2 hy hy2
  refine region_class (fun w => Below wc.heap.size wc w) (by kernel_rfl) (by kernel_rfl) ((Below.refl _ _).drew) ?_
  repeat
    (refine step_class (fun K hK => ?_)
     go_simp
     first
       | (refine hK _ ?_; clear hK K)
       | (with_reducible apply Hq.of
          · intro wv hv
            have Hv := Lib.hid hv
            have qx := Hhx.out.below hv
            obtain ⟨x_0, x_1, x_2, x_3, x_4, x_f⟩ := qx.atTm
            clear qx
            have qx2 := Hhx2.out.below hv
            obtain ⟨x2_0, x2_1, x2_2, x2_3, x2_4, x2_f⟩ := qx2.atTm
            clear qx2
            have qy := Hhy.out.below hv
            obtain ⟨y_0, y_1, y_2, y_3, y_4, y_5, y_6, y_7, y_8, y_9, y_f⟩ := qy.ten
            clear qy
            have qy2 := Hhy2.out.below hv
            obtain ⟨y2_0, y2_1, y2_2, y2_3, y2_4, y2_5, y2_6, y2_7, y2_8, y2_9, y2_f⟩ := qy2.ten
            clear qy2
            clear hv
            go_simp
            (first
              | (with_reducible exact rfl)
              | (go_at_call 13; (with_reducible refine (fromP y _).mono ?_); rintro e' w1 ⟨rfl, hb1⟩; exact ⟨rfl, below_of Hv.out hb1⟩))
          refine hK _ ?_
          clear hK K))
  refine nil_class ?_
  intro wn hbn
  have hp := Hhp.out.below hbn
  have hq := Hhq.out.below hbn
  have ht := Hht.out.below hbn
  have hx := Hhx.out.below hbn
  have hx2 := Hhx2.out.below hbn
  have hy := Hhy.out.below hbn
  have hy2 := Hhy2.out.below hbn
  replace hz := below_of hz hbn
  clear Hhp Hhq Hht Hhx Hhx2 Hhy Hhy2 hbn wc
  obtain ⟨wc, rfl⟩ : ∃ wc, wc = wn := ⟨_, rfl⟩
  go_wp2
  go_ret
  exact ⟨rfl, hz⟩
end Go.Proofs.Ytfmnbkcjibhloaa
