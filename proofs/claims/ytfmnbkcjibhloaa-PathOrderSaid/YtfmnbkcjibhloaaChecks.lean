/- PathChecks: whatever two ways come, the program and the reference say the same of them. Condition: the counts are of uint32's range. -/
import Derived.Test.YtfmnbkcjibhloaaRle
import Derived.Test.YtfmnbkcjibhloaaOp
namespace Go.Proofs.Ytfmnbkcjibhloaa
open Go.RowKit
set_option linter.unusedVariables false
set_option linter.unusedSimpArgs false
theorem le_any (p q : Pa) (w : World) : Calls Try.prog 29 #[.agg #[.int .i64 p.f, .int .i64 p.k, .int .u32 p.a0, .int .u32 p.a1, .int .u32 p.a2, .int .u32 p.a3, .int .i64 p.u, .int .u32 p.l0, .int .u32 p.l1, .int .u32 p.l2], .agg #[.int .i64 q.f, .int .i64 q.k, .int .u32 q.a0, .int .u32 q.a1, .int .u32 q.a2, .int .u32 q.a3, .int .i64 q.u, .int .u32 q.l0, .int .u32 q.l1, .int .u32 q.l2]] w fun e w' => e = .returned (.bool (leR p q)) ∧ Below w.heap.size w w' := le_all p.f p.k p.a0 p.a1 p.a2 p.a3 p.u p.l0 p.l1 p.l2 q.f q.k q.a0 q.a1 q.a2 q.a3 q.u q.l0 q.l1 q.l2 w
theorem rle_any (p q : Pa) (w : World) : Calls Try.prog 30 #[.agg #[.int .i64 p.f, .int .i64 p.k, .int .u32 p.a0, .int .u32 p.a1, .int .u32 p.a2, .int .u32 p.a3, .int .i64 p.u, .int .u32 p.l0, .int .u32 p.l1, .int .u32 p.l2], .agg #[.int .i64 q.f, .int .i64 q.k, .int .u32 q.a0, .int .u32 q.a1, .int .u32 q.a2, .int .u32 q.a3, .int .i64 q.u, .int .u32 q.l0, .int .u32 q.l1, .int .u32 q.l2]] w fun e w' => e = .returned (.bool (leR p q)) ∧ Below w.heap.size w w' := rle_all p.f p.k p.a0 p.a1 p.a2 p.a3 p.u p.l0 p.l1 p.l2 q.f q.k q.a0 q.a1 q.a2 q.a3 q.u q.l0 q.l1 q.l2 w
theorem rrises_any (p : Pa) (h : PaOk p) (w : World) : Calls Try.prog 28 #[.agg #[.int .i64 p.f, .int .i64 p.k, .int .u32 p.a0, .int .u32 p.a1, .int .u32 p.a2, .int .u32 p.a3, .int .i64 p.u, .int .u32 p.l0, .int .u32 p.l1, .int .u32 p.l2]] w fun e w' => e = .returned (.bool (risesR p)) ∧ Below w.heap.size w w' := rrises_all p.f p.k p.a0 p.a1 p.a2 p.a3 p.u p.l0 p.l1 p.l2 w h
set_option maxHeartbeats 16000000 in
theorem checks_any (p q : Pa) (w : World) (hp : PaOk p) (hq : PaOk q) : Calls Try.prog 4 #[.agg #[.int .i64 p.f, .int .i64 p.k, .int .u32 p.a0, .int .u32 p.a1, .int .u32 p.a2, .int .u32 p.a3, .int .i64 p.u, .int .u32 p.l0, .int .u32 p.l1, .int .u32 p.l2], .agg #[.int .i64 q.f, .int .i64 q.k, .int .u32 q.a0, .int .u32 q.a1, .int .u32 q.a2, .int .u32 q.a3, .int .i64 q.u, .int .u32 q.l0, .int .u32 q.l1, .int .u32 q.l2]] w fun e w' => e = .returned (.bool true) ∧ Below w.heap.size w w' := by
  have HP := Lib.hid hp
  have HQ := Lib.hid hq
  clear hp hq
  go_enter Try.func4, Try.ntmps4
  go_upto_region 1 with (fail)
  have hw : W2 w w.heap.size (w.heap.size + 1) 30 p q ((w.alloc (.cells #[.int .i64 p.f, .int .i64 p.k, .int .u32 p.a0, .int .u32 p.a1, .int .u32 p.a2, .int .u32 p.a3, .int .i64 p.u, .int .u32 p.l0, .int .u32 p.l1, .int .u32 p.l2] 30)).alloc (.cells #[.int .i64 q.f, .int .i64 q.k, .int .u32 q.a0, .int .u32 q.a1, .int .u32 q.a2, .int .u32 q.a3, .int .i64 q.u, .int .u32 q.l0, .int .u32 q.l1, .int .u32 q.l2] 30)) := W2.start w 30 p q
  generalize (w.alloc (.cells #[.int .i64 p.f, .int .i64 p.k, .int .u32 p.a0, .int .u32 p.a1, .int .u32 p.a2, .int .u32 p.a3, .int .i64 p.u, .int .u32 p.l0, .int .u32 p.l1, .int .u32 p.l2] 30)).alloc (.cells #[.int .i64 q.f, .int .i64 q.k, .int .u32 q.a0, .int .u32 q.a1, .int .u32 q.a2, .int .u32 q.a3, .int .i64 q.u, .int .u32 q.l0, .int .u32 q.l1, .int .u32 q.l2] 30) = wc at hw ⊢
  generalize hA : w.heap.size = A at hw ⊢
  generalize hB : A + 1 = B at hw ⊢
  clear hB hA
  have hC := hw.drew.s
  clear hw
  refine region_class (S2 w A B 30 p q) (by kernel_rfl) (by kernel_rfl) hC ?_
  clear hC
  repeat
    (refine step_class (fun K hK => ?_)
     go_simp
     first
       | (refine hK _ ?_; clear hK K)
       | (with_reducible apply Hq.of
          · intro wv hv
            have Hv := Lib.hid hv
            obtain ⟨hz, ⟨_, _, _, _, _, _, _, _, _, _, _⟩, ⟨_, _, _, _, _, _, _, _, _, _, _⟩⟩ := hv
            go_simp
            (first
              | (with_reducible exact rfl)
              | (go_at_call 23; (with_reducible refine (law_to p _).mono ?_); rintro e w1 ⟨rfl, hb1⟩; exact ⟨rfl, s2_below hb1 Hv.out⟩)
              | (go_at_call 23; (with_reducible refine (law_to q _).mono ?_); rintro e w1 ⟨rfl, hb1⟩; exact ⟨rfl, s2_below hb1 Hv.out⟩)
              | (go_at_call 22; (with_reducible refine (check_any p _).mono ?_); rintro e w1 ⟨rfl, hb1⟩; exact ⟨rfl, s2_below hb1 Hv.out⟩)
              | (go_at_call 24; (with_reducible refine (rcheck_any p _).mono ?_); rintro e w1 ⟨rfl, hb1⟩; exact ⟨rfl, s2_below hb1 Hv.out⟩)
              | (go_at_call 25; (with_reducible refine (to_any p _).mono ?_); rintro e w1 ⟨rfl, hb1⟩; exact ⟨rfl, s2_below hb1 Hv.out⟩)
              | (go_at_call 26; (with_reducible refine (rto_any p _).mono ?_); rintro e w1 ⟨rfl, hb1⟩; exact ⟨rfl, s2_below hb1 Hv.out⟩)
              | (go_at_call 27; (with_reducible refine (rises_any p _).mono ?_); rintro e w1 ⟨rfl, hb1⟩; exact ⟨rfl, s2_below hb1 Hv.out⟩)
              | (go_at_call 28; (with_reducible refine (rrises_any p HP.out _).mono ?_); rintro e w1 ⟨rfl, hb1⟩; exact ⟨rfl, s2_below hb1 Hv.out⟩)
              | (go_at_call 29; (with_reducible refine (le_any p q _).mono ?_); rintro e w1 ⟨rfl, hb1⟩; exact ⟨rfl, s2_below hb1 Hv.out⟩)
              | (go_at_call 30; (with_reducible refine (rle_any p q _).mono ?_); rintro e w1 ⟨rfl, hb1⟩; exact ⟨rfl, s2_below hb1 Hv.out⟩)
              | (go_at_call 31; (with_reducible refine (compare_any p q _).mono ?_); rintro e w1 ⟨rfl, hb1⟩; exact ⟨rfl, s2_below hb1 Hv.out⟩)
              | (go_at_call 32; (with_reducible refine (rcompare_any p q HP.out HQ.out _).mono ?_); rintro e w1 ⟨rfl, hb1⟩; exact ⟨rfl, s2_below hb1 Hv.out⟩))
          refine hK _ ?_
          clear hK K))
  refine nil_class ?_
  intro wq hq
  have HS := Lib.hid hq
  obtain ⟨hz, ⟨_, _, _, _, _, _, _, _, _, _, _⟩, ⟨_, _, _, _, _, _, _, _, _, _, _⟩⟩ := hq
  go_wp2
  go_ret
  exact ⟨rfl, hz.z⟩
end Go.Proofs.Ytfmnbkcjibhloaa
