/- The law's own first check: some ways and times, by number. No condition. -/
import Derived.Test.YtfmnbkcjibhloaaTle
import Derived.Test.YtfmnbkcjibhloaaChecks
namespace Go.Proofs.Ytfmnbkcjibhloaa
open Go.RowKit
set_option linter.unusedVariables false
set_option linter.unusedSimpArgs false
attribute [local go_sem] eqA4 eqA3 G.upon_value G.upon_skip G.upon_enter G.runAt_run
open G
theorem w_enter (w : World) : Calls Try.prog 14 #[.int .i64 0] w fun e w' => e = .returned (.tuple #[.agg #[.int .i64 0, .int .i64 0, .int .u32 0, .int .u32 0, .int .u32 0, .int .u32 0, .int .i64 1, .int .u32 0, .int .u32 0, .int .u32 0], .int .i64 0]) ∧ Below w.heap.size w w' := by
  have h := enter_any 0 w
  rw [show enterR 0 = (⟨0, 0, 0, 0, 0, 0, 1, 0, 0, 0⟩, 0) by decide] at h
  exact h
theorem w_next (w : World) : Calls Try.prog 18 #[.int .i64 1] w fun e w' => e = .returned (.tuple #[.agg #[.int .i64 1, .int .i64 1, .int .u32 0, .int .u32 1, .int .u32 0, .int .u32 0, .int .i64 0, .int .u32 0, .int .u32 0, .int .u32 0], .int .i64 0]) ∧ Below w.heap.size w w' := by
  have h := next_any 1 w
  rw [show nextR 1 = (⟨1, 1, 0, 1, 0, 0, 0, 0, 0, 0⟩, 0) by decide] at h
  exact h
theorem w_leave (w : World) : Calls Try.prog 16 #[.int .i64 1] w fun e w' => e = .returned (.tuple #[.agg #[.int .i64 1, .int .i64 0, .int .u32 0, .int .u32 0, .int .u32 0, .int .u32 0, .int .i64 0, .int .u32 0, .int .u32 0, .int .u32 0], .int .i64 0]) ∧ Below w.heap.size w w' := by
  have h := leave_any 1 w
  rw [show leaveR 1 = (⟨1, 0, 0, 0, 0, 0, 0, 0, 0, 0⟩, 0) by decide] at h
  exact h
theorem w_stay (w : World) : Calls Try.prog 11 #[.int .i64 0] w fun e w' => e = .returned (.tuple #[.agg #[.int .i64 0, .int .i64 0, .int .u32 0, .int .u32 0, .int .u32 0, .int .u32 0, .int .i64 0, .int .u32 0, .int .u32 0, .int .u32 0], .int .i64 0]) ∧ Below w.heap.size w w' := by
  have h := stay_any 0 w
  rw [show stayR 0 = (⟨0, 0, 0, 0, 0, 0, 0, 0, 0, 0⟩, 0) by decide] at h
  exact h
theorem w_ab (w : World) : Calls Try.prog 35 #[.agg #[.int .i64 0, .int .i64 0, .int .u32 0, .int .u32 0, .int .u32 0, .int .u32 0, .int .i64 1, .int .u32 0, .int .u32 0, .int .u32 0], .agg #[.int .i64 1, .int .i64 1, .int .u32 0, .int .u32 1, .int .u32 0, .int .u32 0, .int .i64 0, .int .u32 0, .int .u32 0, .int .u32 0]] w fun e w' => e = .returned (.tuple #[.agg #[.int .i64 0, .int .i64 0, .int .u32 0, .int .u32 0, .int .u32 0, .int .u32 0, .int .i64 1, .int .u32 1, .int .u32 0, .int .u32 0], .int .i64 0]) ∧ Below w.heap.size w w' := by
  exact then_any ⟨0, 0, 0, 0, 0, 0, 1, 0, 0, 0⟩ ⟨1, 1, 0, 1, 0, 0, 0, 0, 0, 0⟩ w (by refine ⟨⟨?_, ?_⟩, ⟨?_, ?_⟩, ⟨?_, ?_⟩, ⟨?_, ?_⟩, ⟨?_, ?_⟩, ⟨?_, ?_⟩, ⟨?_, ?_⟩⟩ <;> decide) (by refine ⟨⟨?_, ?_⟩, ⟨?_, ?_⟩, ⟨?_, ?_⟩, ⟨?_, ?_⟩, ⟨?_, ?_⟩, ⟨?_, ?_⟩, ⟨?_, ?_⟩⟩ <;> decide) ⟨0, 0, 0, 0, 0, 0, 1, 1, 0, 0⟩ 0 (by decide)
theorem w_db (w : World) : Calls Try.prog 35 #[.agg #[.int .i64 0, .int .i64 0, .int .u32 0, .int .u32 0, .int .u32 0, .int .u32 0, .int .i64 1, .int .u32 1, .int .u32 0, .int .u32 0], .agg #[.int .i64 1, .int .i64 1, .int .u32 0, .int .u32 1, .int .u32 0, .int .u32 0, .int .i64 0, .int .u32 0, .int .u32 0, .int .u32 0]] w fun e w' => e = .returned (.tuple #[.agg #[.int .i64 0, .int .i64 0, .int .u32 0, .int .u32 0, .int .u32 0, .int .u32 0, .int .i64 1, .int .u32 2, .int .u32 0, .int .u32 0], .int .i64 0]) ∧ Below w.heap.size w w' := by
  exact then_any ⟨0, 0, 0, 0, 0, 0, 1, 1, 0, 0⟩ ⟨1, 1, 0, 1, 0, 0, 0, 0, 0, 0⟩ w (by refine ⟨⟨?_, ?_⟩, ⟨?_, ?_⟩, ⟨?_, ?_⟩, ⟨?_, ?_⟩, ⟨?_, ?_⟩, ⟨?_, ?_⟩, ⟨?_, ?_⟩⟩ <;> decide) (by refine ⟨⟨?_, ?_⟩, ⟨?_, ?_⟩, ⟨?_, ?_⟩, ⟨?_, ?_⟩, ⟨?_, ?_⟩, ⟨?_, ?_⟩, ⟨?_, ?_⟩⟩ <;> decide) ⟨0, 0, 0, 0, 0, 0, 1, 2, 0, 0⟩ 0 (by decide)
theorem w_dc (w : World) : Calls Try.prog 35 #[.agg #[.int .i64 0, .int .i64 0, .int .u32 0, .int .u32 0, .int .u32 0, .int .u32 0, .int .i64 1, .int .u32 1, .int .u32 0, .int .u32 0], .agg #[.int .i64 1, .int .i64 0, .int .u32 0, .int .u32 0, .int .u32 0, .int .u32 0, .int .i64 0, .int .u32 0, .int .u32 0, .int .u32 0]] w fun e w' => e = .returned (.tuple #[.agg #[.int .i64 0, .int .i64 0, .int .u32 0, .int .u32 0, .int .u32 0, .int .u32 0, .int .i64 0, .int .u32 0, .int .u32 0, .int .u32 0], .int .i64 0]) ∧ Below w.heap.size w w' := by
  exact then_any ⟨0, 0, 0, 0, 0, 0, 1, 1, 0, 0⟩ ⟨1, 0, 0, 0, 0, 0, 0, 0, 0, 0⟩ w (by refine ⟨⟨?_, ?_⟩, ⟨?_, ?_⟩, ⟨?_, ?_⟩, ⟨?_, ?_⟩, ⟨?_, ?_⟩, ⟨?_, ?_⟩, ⟨?_, ?_⟩⟩ <;> decide) (by refine ⟨⟨?_, ?_⟩, ⟨?_, ?_⟩, ⟨?_, ?_⟩, ⟨?_, ?_⟩, ⟨?_, ?_⟩, ⟨?_, ?_⟩, ⟨?_, ?_⟩⟩ <;> decide) ⟨0, 0, 0, 0, 0, 0, 0, 0, 0, 0⟩ 0 (by decide)
theorem w_app (w : World) : Calls Try.prog 33 #[.agg #[.int .i64 0, .int .i64 0, .int .u32 0, .int .u32 0, .int .u32 0, .int .u32 0, .int .i64 1, .int .u32 2, .int .u32 0, .int .u32 0], .agg #[.int .u32 5, .int .i64 0, .int .u32 0, .int .u32 0, .int .u32 0]] w fun e w' => e = .returned (.tuple #[.agg #[.int .u32 5, .int .i64 1, .int .u32 2, .int .u32 0, .int .u32 0], .int .i64 0]) ∧ Below w.heap.size w w' := by
  exact apply_any ⟨0, 0, 0, 0, 0, 0, 1, 2, 0, 0⟩ ⟨5, 0, 0, 0, 0⟩ w (by refine ⟨⟨?_, ?_⟩, ⟨?_, ?_⟩, ⟨?_, ?_⟩, ⟨?_, ?_⟩, ⟨?_, ?_⟩, ⟨?_, ?_⟩, ⟨?_, ?_⟩⟩ <;> decide) (by refine ⟨⟨?_, ?_⟩, ⟨?_, ?_⟩, ⟨?_, ?_⟩, ⟨?_, ?_⟩⟩ <;> decide) ⟨5, 1, 2, 0, 0⟩ 0 (by decide)
theorem w_rb (w : World) : Calls Try.prog 27 #[.agg #[.int .i64 1, .int .i64 1, .int .u32 0, .int .u32 1, .int .u32 0, .int .u32 0, .int .i64 0, .int .u32 0, .int .u32 0, .int .u32 0]] w fun e w' => e = .returned (.bool true) ∧ Below w.heap.size w w' := by
  have h := rises_any ⟨1, 1, 0, 1, 0, 0, 0, 0, 0, 0⟩ w
  rw [show risesR ⟨1, 1, 0, 1, 0, 0, 0, 0, 0, 0⟩ = true by decide] at h
  exact h
theorem w_rz (w : World) : Calls Try.prog 27 #[.agg #[.int .i64 0, .int .i64 0, .int .u32 0, .int .u32 0, .int .u32 0, .int .u32 0, .int .i64 0, .int .u32 0, .int .u32 0, .int .u32 0]] w fun e w' => e = .returned (.bool false) ∧ Below w.heap.size w w' := by
  have h := rises_any ⟨0, 0, 0, 0, 0, 0, 0, 0, 0, 0⟩ w
  rw [show risesR ⟨0, 0, 0, 0, 0, 0, 0, 0, 0, 0⟩ = false by decide] at h
  exact h
theorem w_dx (w : World) : Calls Try.prog 29 #[.agg #[.int .i64 0, .int .i64 0, .int .u32 0, .int .u32 0, .int .u32 0, .int .u32 0, .int .i64 1, .int .u32 1, .int .u32 0, .int .u32 0], .agg #[.int .i64 0, .int .i64 0, .int .u32 0, .int .u32 0, .int .u32 0, .int .u32 0, .int .i64 1, .int .u32 2, .int .u32 0, .int .u32 0]] w fun e w' => e = .returned (.bool true) ∧ Below w.heap.size w w' := by
  have h := le_any ⟨0, 0, 0, 0, 0, 0, 1, 1, 0, 0⟩ ⟨0, 0, 0, 0, 0, 0, 1, 2, 0, 0⟩ w
  rw [show leR ⟨0, 0, 0, 0, 0, 0, 1, 1, 0, 0⟩ ⟨0, 0, 0, 0, 0, 0, 1, 2, 0, 0⟩ = true by decide] at h
  exact h
theorem w_xd (w : World) : Calls Try.prog 29 #[.agg #[.int .i64 0, .int .i64 0, .int .u32 0, .int .u32 0, .int .u32 0, .int .u32 0, .int .i64 1, .int .u32 2, .int .u32 0, .int .u32 0], .agg #[.int .i64 0, .int .i64 0, .int .u32 0, .int .u32 0, .int .u32 0, .int .u32 0, .int .i64 1, .int .u32 1, .int .u32 0, .int .u32 0]] w fun e w' => e = .returned (.bool false) ∧ Below w.heap.size w w' := by
  have h := le_any ⟨0, 0, 0, 0, 0, 0, 1, 2, 0, 0⟩ ⟨0, 0, 0, 0, 0, 0, 1, 1, 0, 0⟩ w
  rw [show leR ⟨0, 0, 0, 0, 0, 0, 1, 2, 0, 0⟩ ⟨0, 0, 0, 0, 0, 0, 1, 1, 0, 0⟩ = false by decide] at h
  exact h
set_option maxRecDepth 100000 in
set_option maxHeartbeats 16000000 in
theorem works_any (w : World) : Calls Try.prog 37 #[] w fun e' w' => e' = .returned (.bool true) ∧ Below w.heap.size w w' := by
  go_enter Try.func37, Try.ntmps37
  have hz : Below w.heap.size w w := Below.refl _ _
  go_upto_region 2 with (go_at_call 14; (with_reducible refine (w_enter _).mono ?_); rintro e' w1 ⟨rfl, hb1⟩; replace hz := below_of hz hb1; clear hb1; skip)
  have ha := Row.new w1 #[.int .i64 0, .int .i64 0, .int .u32 0, .int .u32 0, .int .u32 0, .int .u32 0, .int .i64 1, .int .u32 0, .int .u32 0, .int .u32 0] 26
  replace hz := below_of hz (below_new w1 (.cells #[.int .i64 0, .int .i64 0, .int .u32 0, .int .u32 0, .int .u32 0, .int .u32 0, .int .i64 1, .int .u32 0, .int .u32 0, .int .u32 0] 26))
  generalize w1.heap.size = Xa at ha ⊢
  generalize w1.alloc (.cells #[.int .i64 0, .int .i64 0, .int .u32 0, .int .u32 0, .int .u32 0, .int .u32 0, .int .i64 1, .int .u32 0, .int .u32 0, .int .u32 0] 26) = wd at ha  hz ⊢
  try clear wc
  obtain ⟨wc, rfl⟩ : ∃ wc, wc = wd := ⟨_, rfl⟩
  go_upto_region 3 with (go_at_call 18; (with_reducible refine (w_next _).mono ?_); rintro e' w1 ⟨rfl, hb1⟩; replace ha := ha.below hb1; replace hz := below_of hz hb1; clear hb1; skip)
  have hb := Row.new w1 #[.int .i64 1, .int .i64 1, .int .u32 0, .int .u32 1, .int .u32 0, .int .u32 0, .int .i64 0, .int .u32 0, .int .u32 0, .int .u32 0] 26
  replace ha := ha.alloc (.cells #[.int .i64 1, .int .i64 1, .int .u32 0, .int .u32 1, .int .u32 0, .int .u32 0, .int .i64 0, .int .u32 0, .int .u32 0, .int .u32 0] 26)
  replace hz := below_of hz (below_new w1 (.cells #[.int .i64 1, .int .i64 1, .int .u32 0, .int .u32 1, .int .u32 0, .int .u32 0, .int .i64 0, .int .u32 0, .int .u32 0, .int .u32 0] 26))
  generalize w1.heap.size = Xb at hb ⊢
  generalize w1.alloc (.cells #[.int .i64 1, .int .i64 1, .int .u32 0, .int .u32 1, .int .u32 0, .int .u32 0, .int .i64 0, .int .u32 0, .int .u32 0, .int .u32 0] 26) = wd at hb ha hz ⊢
  try clear wc
  obtain ⟨wc, rfl⟩ : ∃ wc, wc = wd := ⟨_, rfl⟩
  go_upto_region 4 with (go_at_call 16; (with_reducible refine (w_leave _).mono ?_); rintro e' w1 ⟨rfl, hb1⟩; replace ha := ha.below hb1; replace hb := hb.below hb1; replace hz := below_of hz hb1; clear hb1; skip)
  have hc := Row.new w1 #[.int .i64 1, .int .i64 0, .int .u32 0, .int .u32 0, .int .u32 0, .int .u32 0, .int .i64 0, .int .u32 0, .int .u32 0, .int .u32 0] 26
  replace ha := ha.alloc (.cells #[.int .i64 1, .int .i64 0, .int .u32 0, .int .u32 0, .int .u32 0, .int .u32 0, .int .i64 0, .int .u32 0, .int .u32 0, .int .u32 0] 26)
  replace hb := hb.alloc (.cells #[.int .i64 1, .int .i64 0, .int .u32 0, .int .u32 0, .int .u32 0, .int .u32 0, .int .i64 0, .int .u32 0, .int .u32 0, .int .u32 0] 26)
  replace hz := below_of hz (below_new w1 (.cells #[.int .i64 1, .int .i64 0, .int .u32 0, .int .u32 0, .int .u32 0, .int .u32 0, .int .i64 0, .int .u32 0, .int .u32 0, .int .u32 0] 26))
  generalize w1.heap.size = Xc at hc ⊢
  generalize w1.alloc (.cells #[.int .i64 1, .int .i64 0, .int .u32 0, .int .u32 0, .int .u32 0, .int .u32 0, .int .i64 0, .int .u32 0, .int .u32 0, .int .u32 0] 26) = wd at hc ha hb hz ⊢
  try clear wc
  obtain ⟨wc, rfl⟩ : ∃ wc, wc = wd := ⟨_, rfl⟩
  obtain ⟨a_0, a_1, a_2, a_3, a_4, a_5, a_6, a_7, a_8, a_9, a_f⟩ := ha.ten
  obtain ⟨b_0, b_1, b_2, b_3, b_4, b_5, b_6, b_7, b_8, b_9, b_f⟩ := hb.ten
  go_upto_region 5 with (go_at_call 35; (with_reducible refine (w_ab _).mono ?_); rintro e' w1 ⟨rfl, hb1⟩; replace ha := ha.below hb1; replace hb := hb.below hb1; replace hc := hc.below hb1; replace hz := below_of hz hb1; clear hb1; clear a_0 a_1 a_2 a_3 a_4 a_5 a_6 a_7 a_8 a_9 a_f b_0 b_1 b_2 b_3 b_4 b_5 b_6 b_7 b_8 b_9 b_f)
  have hd := Row.new w1 #[.int .i64 0, .int .i64 0, .int .u32 0, .int .u32 0, .int .u32 0, .int .u32 0, .int .i64 1, .int .u32 1, .int .u32 0, .int .u32 0] 26
  replace ha := ha.alloc (.cells #[.int .i64 0, .int .i64 0, .int .u32 0, .int .u32 0, .int .u32 0, .int .u32 0, .int .i64 1, .int .u32 1, .int .u32 0, .int .u32 0] 26)
  replace hb := hb.alloc (.cells #[.int .i64 0, .int .i64 0, .int .u32 0, .int .u32 0, .int .u32 0, .int .u32 0, .int .i64 1, .int .u32 1, .int .u32 0, .int .u32 0] 26)
  replace hc := hc.alloc (.cells #[.int .i64 0, .int .i64 0, .int .u32 0, .int .u32 0, .int .u32 0, .int .u32 0, .int .i64 1, .int .u32 1, .int .u32 0, .int .u32 0] 26)
  replace hz := below_of hz (below_new w1 (.cells #[.int .i64 0, .int .i64 0, .int .u32 0, .int .u32 0, .int .u32 0, .int .u32 0, .int .i64 1, .int .u32 1, .int .u32 0, .int .u32 0] 26))
  generalize w1.heap.size = Xd at hd ⊢
  generalize w1.alloc (.cells #[.int .i64 0, .int .i64 0, .int .u32 0, .int .u32 0, .int .u32 0, .int .u32 0, .int .i64 1, .int .u32 1, .int .u32 0, .int .u32 0] 26) = wd at hd ha hb hc hz ⊢
  try clear wc
  obtain ⟨wc, rfl⟩ : ∃ wc, wc = wd := ⟨_, rfl⟩
  obtain ⟨b_0, b_1, b_2, b_3, b_4, b_5, b_6, b_7, b_8, b_9, b_f⟩ := hb.ten
  obtain ⟨d_0, d_1, d_2, d_3, d_4, d_5, d_6, d_7, d_8, d_9, d_f⟩ := hd.ten
  go_upto_region 6 with (go_at_call 35; (with_reducible refine (w_db _).mono ?_); rintro e' w1 ⟨rfl, hb1⟩; replace ha := ha.below hb1; replace hb := hb.below hb1; replace hc := hc.below hb1; replace hd := hd.below hb1; replace hz := below_of hz hb1; clear hb1; clear b_0 b_1 b_2 b_3 b_4 b_5 b_6 b_7 b_8 b_9 b_f d_0 d_1 d_2 d_3 d_4 d_5 d_6 d_7 d_8 d_9 d_f)
  have hx := Row.new w1 #[.int .i64 0, .int .i64 0, .int .u32 0, .int .u32 0, .int .u32 0, .int .u32 0, .int .i64 1, .int .u32 2, .int .u32 0, .int .u32 0] 26
  replace ha := ha.alloc (.cells #[.int .i64 0, .int .i64 0, .int .u32 0, .int .u32 0, .int .u32 0, .int .u32 0, .int .i64 1, .int .u32 2, .int .u32 0, .int .u32 0] 26)
  replace hb := hb.alloc (.cells #[.int .i64 0, .int .i64 0, .int .u32 0, .int .u32 0, .int .u32 0, .int .u32 0, .int .i64 1, .int .u32 2, .int .u32 0, .int .u32 0] 26)
  replace hc := hc.alloc (.cells #[.int .i64 0, .int .i64 0, .int .u32 0, .int .u32 0, .int .u32 0, .int .u32 0, .int .i64 1, .int .u32 2, .int .u32 0, .int .u32 0] 26)
  replace hd := hd.alloc (.cells #[.int .i64 0, .int .i64 0, .int .u32 0, .int .u32 0, .int .u32 0, .int .u32 0, .int .i64 1, .int .u32 2, .int .u32 0, .int .u32 0] 26)
  replace hz := below_of hz (below_new w1 (.cells #[.int .i64 0, .int .i64 0, .int .u32 0, .int .u32 0, .int .u32 0, .int .u32 0, .int .i64 1, .int .u32 2, .int .u32 0, .int .u32 0] 26))
  generalize w1.heap.size = Xx at hx ⊢
  generalize w1.alloc (.cells #[.int .i64 0, .int .i64 0, .int .u32 0, .int .u32 0, .int .u32 0, .int .u32 0, .int .i64 1, .int .u32 2, .int .u32 0, .int .u32 0] 26) = wd at hx ha hb hc hd hz ⊢
  try clear wc
  obtain ⟨wc, rfl⟩ : ∃ wc, wc = wd := ⟨_, rfl⟩
  obtain ⟨c_0, c_1, c_2, c_3, c_4, c_5, c_6, c_7, c_8, c_9, c_f⟩ := hc.ten
  obtain ⟨d_0, d_1, d_2, d_3, d_4, d_5, d_6, d_7, d_8, d_9, d_f⟩ := hd.ten
  go_upto_region 7 with (go_at_call 35; (with_reducible refine (w_dc _).mono ?_); rintro e' w1 ⟨rfl, hb1⟩; replace ha := ha.below hb1; replace hb := hb.below hb1; replace hc := hc.below hb1; replace hd := hd.below hb1; replace hx := hx.below hb1; replace hz := below_of hz hb1; clear hb1; clear c_0 c_1 c_2 c_3 c_4 c_5 c_6 c_7 c_8 c_9 c_f d_0 d_1 d_2 d_3 d_4 d_5 d_6 d_7 d_8 d_9 d_f)
  have hy := Row.new w1 #[.int .i64 0, .int .i64 0, .int .u32 0, .int .u32 0, .int .u32 0, .int .u32 0, .int .i64 0, .int .u32 0, .int .u32 0, .int .u32 0] 26
  replace ha := ha.alloc (.cells #[.int .i64 0, .int .i64 0, .int .u32 0, .int .u32 0, .int .u32 0, .int .u32 0, .int .i64 0, .int .u32 0, .int .u32 0, .int .u32 0] 26)
  replace hb := hb.alloc (.cells #[.int .i64 0, .int .i64 0, .int .u32 0, .int .u32 0, .int .u32 0, .int .u32 0, .int .i64 0, .int .u32 0, .int .u32 0, .int .u32 0] 26)
  replace hc := hc.alloc (.cells #[.int .i64 0, .int .i64 0, .int .u32 0, .int .u32 0, .int .u32 0, .int .u32 0, .int .i64 0, .int .u32 0, .int .u32 0, .int .u32 0] 26)
  replace hd := hd.alloc (.cells #[.int .i64 0, .int .i64 0, .int .u32 0, .int .u32 0, .int .u32 0, .int .u32 0, .int .i64 0, .int .u32 0, .int .u32 0, .int .u32 0] 26)
  replace hx := hx.alloc (.cells #[.int .i64 0, .int .i64 0, .int .u32 0, .int .u32 0, .int .u32 0, .int .u32 0, .int .i64 0, .int .u32 0, .int .u32 0, .int .u32 0] 26)
  replace hz := below_of hz (below_new w1 (.cells #[.int .i64 0, .int .i64 0, .int .u32 0, .int .u32 0, .int .u32 0, .int .u32 0, .int .i64 0, .int .u32 0, .int .u32 0, .int .u32 0] 26))
  generalize w1.heap.size = Xy at hy ⊢
  generalize w1.alloc (.cells #[.int .i64 0, .int .i64 0, .int .u32 0, .int .u32 0, .int .u32 0, .int .u32 0, .int .i64 0, .int .u32 0, .int .u32 0, .int .u32 0] 26) = wd at hy ha hb hc hd hx hz ⊢
  try clear wc
  obtain ⟨wc, rfl⟩ : ∃ wc, wc = wd := ⟨_, rfl⟩
  go_upto_region 8 with (go_at_call 11; (with_reducible refine (w_stay _).mono ?_); rintro e' w1 ⟨rfl, hb1⟩; replace ha := ha.below hb1; replace hb := hb.below hb1; replace hc := hc.below hb1; replace hd := hd.below hb1; replace hx := hx.below hb1; replace hy := hy.below hb1; replace hz := below_of hz hb1; clear hb1; skip)
  have hv := Row.new w1 #[.int .i64 0, .int .i64 0, .int .u32 0, .int .u32 0, .int .u32 0, .int .u32 0, .int .i64 0, .int .u32 0, .int .u32 0, .int .u32 0] 26
  replace ha := ha.alloc (.cells #[.int .i64 0, .int .i64 0, .int .u32 0, .int .u32 0, .int .u32 0, .int .u32 0, .int .i64 0, .int .u32 0, .int .u32 0, .int .u32 0] 26)
  replace hb := hb.alloc (.cells #[.int .i64 0, .int .i64 0, .int .u32 0, .int .u32 0, .int .u32 0, .int .u32 0, .int .i64 0, .int .u32 0, .int .u32 0, .int .u32 0] 26)
  replace hc := hc.alloc (.cells #[.int .i64 0, .int .i64 0, .int .u32 0, .int .u32 0, .int .u32 0, .int .u32 0, .int .i64 0, .int .u32 0, .int .u32 0, .int .u32 0] 26)
  replace hd := hd.alloc (.cells #[.int .i64 0, .int .i64 0, .int .u32 0, .int .u32 0, .int .u32 0, .int .u32 0, .int .i64 0, .int .u32 0, .int .u32 0, .int .u32 0] 26)
  replace hx := hx.alloc (.cells #[.int .i64 0, .int .i64 0, .int .u32 0, .int .u32 0, .int .u32 0, .int .u32 0, .int .i64 0, .int .u32 0, .int .u32 0, .int .u32 0] 26)
  replace hy := hy.alloc (.cells #[.int .i64 0, .int .i64 0, .int .u32 0, .int .u32 0, .int .u32 0, .int .u32 0, .int .i64 0, .int .u32 0, .int .u32 0, .int .u32 0] 26)
  replace hz := below_of hz (below_new w1 (.cells #[.int .i64 0, .int .i64 0, .int .u32 0, .int .u32 0, .int .u32 0, .int .u32 0, .int .i64 0, .int .u32 0, .int .u32 0, .int .u32 0] 26))
  generalize w1.heap.size = Xv at hv ⊢
  generalize w1.alloc (.cells #[.int .i64 0, .int .i64 0, .int .u32 0, .int .u32 0, .int .u32 0, .int .u32 0, .int .i64 0, .int .u32 0, .int .u32 0, .int .u32 0] 26) = wd at hv ha hb hc hd hx hy hz ⊢
  try clear wc
  obtain ⟨wc, rfl⟩ : ∃ wc, wc = wd := ⟨_, rfl⟩
  obtain ⟨x_0, x_1, x_2, x_3, x_4, x_5, x_6, x_7, x_8, x_9, x_f⟩ := hx.ten
  go_upto_region 9 with (go_at_call 33; (with_reducible refine (w_app _).mono ?_); rintro e' w1 ⟨rfl, hb1⟩; replace ha := ha.below hb1; replace hb := hb.below hb1; replace hc := hc.below hb1; replace hd := hd.below hb1; replace hx := hx.below hb1; replace hy := hy.below hb1; replace hv := hv.below hb1; replace hz := below_of hz hb1; clear hb1; clear x_0 x_1 x_2 x_3 x_4 x_5 x_6 x_7 x_8 x_9 x_f)
  have ht := Row.new w1 #[.int .u32 5, .int .i64 1, .int .u32 2, .int .u32 0, .int .u32 0] 49
  replace ha := ha.alloc (.cells #[.int .u32 5, .int .i64 1, .int .u32 2, .int .u32 0, .int .u32 0] 49)
  replace hb := hb.alloc (.cells #[.int .u32 5, .int .i64 1, .int .u32 2, .int .u32 0, .int .u32 0] 49)
  replace hc := hc.alloc (.cells #[.int .u32 5, .int .i64 1, .int .u32 2, .int .u32 0, .int .u32 0] 49)
  replace hd := hd.alloc (.cells #[.int .u32 5, .int .i64 1, .int .u32 2, .int .u32 0, .int .u32 0] 49)
  replace hx := hx.alloc (.cells #[.int .u32 5, .int .i64 1, .int .u32 2, .int .u32 0, .int .u32 0] 49)
  replace hy := hy.alloc (.cells #[.int .u32 5, .int .i64 1, .int .u32 2, .int .u32 0, .int .u32 0] 49)
  replace hv := hv.alloc (.cells #[.int .u32 5, .int .i64 1, .int .u32 2, .int .u32 0, .int .u32 0] 49)
  replace hz := below_of hz (below_new w1 (.cells #[.int .u32 5, .int .i64 1, .int .u32 2, .int .u32 0, .int .u32 0] 49))
  generalize w1.heap.size = Xt at ht ⊢
  generalize w1.alloc (.cells #[.int .u32 5, .int .i64 1, .int .u32 2, .int .u32 0, .int .u32 0] 49) = wd at ht ha hb hc hd hx hy hv hz ⊢
  try clear wc
  obtain ⟨wc, rfl⟩ : ∃ wc, wc = wd := ⟨_, rfl⟩
  obtain ⟨b_0, b_1, b_2, b_3, b_4, b_5, b_6, b_7, b_8, b_9, b_f⟩ := hb.ten
  obtain ⟨d_0, d_1, d_2, d_3, d_4, d_5, d_6, d_7, d_8, d_9, d_f⟩ := hd.ten
  obtain ⟨x_0, x_1, x_2, x_3, x_4, x_5, x_6, x_7, x_8, x_9, x_f⟩ := hx.ten
  obtain ⟨y_0, y_1, y_2, y_3, y_4, y_5, y_6, y_7, y_8, y_9, y_f⟩ := hy.ten
  obtain ⟨v_0, v_1, v_2, v_3, v_4, v_5, v_6, v_7, v_8, v_9, v_f⟩ := hv.ten
  obtain ⟨t_0, t_1, t_2, t_3, t_4, t_f⟩ := ht.atTm
  go_wp2_with (first | (go_at_call 27; (with_reducible refine (w_rb _).mono ?_); rintro e' w1 ⟨rfl, hb1⟩; replace hb := hb.below hb1; replace hd := hd.below hb1; replace hx := hx.below hb1; replace hy := hy.below hb1; replace hv := hv.below hb1; replace ht := ht.below hb1; replace hz := below_of hz hb1; clear hb1; clear b_0 b_1 b_2 b_3 b_4 b_5 b_6 b_7 b_8 b_9 b_f d_0 d_1 d_2 d_3 d_4 d_5 d_6 d_7 d_8 d_9 d_f x_0 x_1 x_2 x_3 x_4 x_5 x_6 x_7 x_8 x_9 x_f y_0 y_1 y_2 y_3 y_4 y_5 y_6 y_7 y_8 y_9 y_f v_0 v_1 v_2 v_3 v_4 v_5 v_6 v_7 v_8 v_9 v_f t_0 t_1 t_2 t_3 t_4 t_f; obtain ⟨b_0, b_1, b_2, b_3, b_4, b_5, b_6, b_7, b_8, b_9, b_f⟩ := hb.ten; obtain ⟨d_0, d_1, d_2, d_3, d_4, d_5, d_6, d_7, d_8, d_9, d_f⟩ := hd.ten; obtain ⟨x_0, x_1, x_2, x_3, x_4, x_5, x_6, x_7, x_8, x_9, x_f⟩ := hx.ten; obtain ⟨y_0, y_1, y_2, y_3, y_4, y_5, y_6, y_7, y_8, y_9, y_f⟩ := hy.ten; obtain ⟨v_0, v_1, v_2, v_3, v_4, v_5, v_6, v_7, v_8, v_9, v_f⟩ := hv.ten; obtain ⟨t_0, t_1, t_2, t_3, t_4, t_f⟩ := ht.atTm) | (go_at_call 27; (with_reducible refine (w_rz _).mono ?_); rintro e' w1 ⟨rfl, hb1⟩; replace hb := hb.below hb1; replace hd := hd.below hb1; replace hx := hx.below hb1; replace hy := hy.below hb1; replace hv := hv.below hb1; replace ht := ht.below hb1; replace hz := below_of hz hb1; clear hb1; clear b_0 b_1 b_2 b_3 b_4 b_5 b_6 b_7 b_8 b_9 b_f d_0 d_1 d_2 d_3 d_4 d_5 d_6 d_7 d_8 d_9 d_f x_0 x_1 x_2 x_3 x_4 x_5 x_6 x_7 x_8 x_9 x_f y_0 y_1 y_2 y_3 y_4 y_5 y_6 y_7 y_8 y_9 y_f v_0 v_1 v_2 v_3 v_4 v_5 v_6 v_7 v_8 v_9 v_f t_0 t_1 t_2 t_3 t_4 t_f; obtain ⟨b_0, b_1, b_2, b_3, b_4, b_5, b_6, b_7, b_8, b_9, b_f⟩ := hb.ten; obtain ⟨d_0, d_1, d_2, d_3, d_4, d_5, d_6, d_7, d_8, d_9, d_f⟩ := hd.ten; obtain ⟨x_0, x_1, x_2, x_3, x_4, x_5, x_6, x_7, x_8, x_9, x_f⟩ := hx.ten; obtain ⟨y_0, y_1, y_2, y_3, y_4, y_5, y_6, y_7, y_8, y_9, y_f⟩ := hy.ten; obtain ⟨v_0, v_1, v_2, v_3, v_4, v_5, v_6, v_7, v_8, v_9, v_f⟩ := hv.ten; obtain ⟨t_0, t_1, t_2, t_3, t_4, t_f⟩ := ht.atTm) | (go_at_call 29; (with_reducible refine (w_dx _).mono ?_); rintro e' w1 ⟨rfl, hb1⟩; replace hb := hb.below hb1; replace hd := hd.below hb1; replace hx := hx.below hb1; replace hy := hy.below hb1; replace hv := hv.below hb1; replace ht := ht.below hb1; replace hz := below_of hz hb1; clear hb1; clear b_0 b_1 b_2 b_3 b_4 b_5 b_6 b_7 b_8 b_9 b_f d_0 d_1 d_2 d_3 d_4 d_5 d_6 d_7 d_8 d_9 d_f x_0 x_1 x_2 x_3 x_4 x_5 x_6 x_7 x_8 x_9 x_f y_0 y_1 y_2 y_3 y_4 y_5 y_6 y_7 y_8 y_9 y_f v_0 v_1 v_2 v_3 v_4 v_5 v_6 v_7 v_8 v_9 v_f t_0 t_1 t_2 t_3 t_4 t_f; obtain ⟨b_0, b_1, b_2, b_3, b_4, b_5, b_6, b_7, b_8, b_9, b_f⟩ := hb.ten; obtain ⟨d_0, d_1, d_2, d_3, d_4, d_5, d_6, d_7, d_8, d_9, d_f⟩ := hd.ten; obtain ⟨x_0, x_1, x_2, x_3, x_4, x_5, x_6, x_7, x_8, x_9, x_f⟩ := hx.ten; obtain ⟨y_0, y_1, y_2, y_3, y_4, y_5, y_6, y_7, y_8, y_9, y_f⟩ := hy.ten; obtain ⟨v_0, v_1, v_2, v_3, v_4, v_5, v_6, v_7, v_8, v_9, v_f⟩ := hv.ten; obtain ⟨t_0, t_1, t_2, t_3, t_4, t_f⟩ := ht.atTm) | (go_at_call 29; (with_reducible refine (w_xd _).mono ?_); rintro e' w1 ⟨rfl, hb1⟩; replace hb := hb.below hb1; replace hd := hd.below hb1; replace hx := hx.below hb1; replace hy := hy.below hb1; replace hv := hv.below hb1; replace ht := ht.below hb1; replace hz := below_of hz hb1; clear hb1; clear b_0 b_1 b_2 b_3 b_4 b_5 b_6 b_7 b_8 b_9 b_f d_0 d_1 d_2 d_3 d_4 d_5 d_6 d_7 d_8 d_9 d_f x_0 x_1 x_2 x_3 x_4 x_5 x_6 x_7 x_8 x_9 x_f y_0 y_1 y_2 y_3 y_4 y_5 y_6 y_7 y_8 y_9 y_f v_0 v_1 v_2 v_3 v_4 v_5 v_6 v_7 v_8 v_9 v_f t_0 t_1 t_2 t_3 t_4 t_f; obtain ⟨b_0, b_1, b_2, b_3, b_4, b_5, b_6, b_7, b_8, b_9, b_f⟩ := hb.ten; obtain ⟨d_0, d_1, d_2, d_3, d_4, d_5, d_6, d_7, d_8, d_9, d_f⟩ := hd.ten; obtain ⟨x_0, x_1, x_2, x_3, x_4, x_5, x_6, x_7, x_8, x_9, x_f⟩ := hx.ten; obtain ⟨y_0, y_1, y_2, y_3, y_4, y_5, y_6, y_7, y_8, y_9, y_f⟩ := hy.ten; obtain ⟨v_0, v_1, v_2, v_3, v_4, v_5, v_6, v_7, v_8, v_9, v_f⟩ := hv.ten; obtain ⟨t_0, t_1, t_2, t_3, t_4, t_f⟩ := ht.atTm))
  go_ret
  exact ⟨rfl, hz⟩
end Go.Proofs.Ytfmnbkcjibhloaa
