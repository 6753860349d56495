/- The program's Check of a way whose depths are right. No condition. -/
import Derived.Test.YtfmnbkcjibhloaaChk
namespace Go.Proofs.Ytfmnbkcjibhloaa
open Go.RowKit
set_option linter.unusedVariables false
set_option linter.unusedSimpArgs false

theorem contains_row (g : Nat) (eg : ∀ args w, (callFunc g args).run Try.prog w = .ok (.enter g args) w) (p : Int → Bool) (hp : ∀ n w b, p n = b → Calls Try.prog g #[.int .u32 n] w fun e w' => e = .returned (.bool b) ∧ w = w')
    (A o cap : Nat) (zs : List Int) (w : World) (cs : Array Value) (T : Nat) (hr : Row w A cs T) (hz : zs.length ≤ 1000) (hc : ∀ i x, zs[i]? = some x → cs[o + i]? = some (Value.int .u32 x)) (b : Bool) (hb : zs.any p = b) :
    Calls Try.prog 42 #[.slice (some ⟨A, o, none⟩) zs.length cap, .func (.func g) #[] #[]] w fun e w' => e = .returned (.bool b) ∧ w = w' :=
  contains_any g eg p hp A o cap zs w hz (fun i x hi => hr.cell _ _ (hc i x hi)) b hb
set_option maxHeartbeats 1000000 in
theorem check_00 (f a0 a1 a2 a3 l0 l1 l2 : Int) (w : World) (hf0 : 0 ≤ f) (hf : f ≤ 3) (b1 b2 b3 b4 : Bool) (hb1 : [a0, a1, a2, a3].any gr = b1) (hb2 : [l0, l1, l2].any gr = b2) (hb3 : [a1, a2, a3].any so = b3) (hb4 : [l0, l1, l2].any so = b4) :
    Calls Try.prog 22 #[.agg #[.int .i64 f, .int .i64 0, .int .u32 a0, .int .u32 a1, .int .u32 a2, .int .u32 a3, .int .i64 0, .int .u32 l0, .int .u32 l1, .int .u32 l2]] w fun e w' => e = .returned (.int .i64 (if (b1 || b2) = true then 1 else if (b3 || b4) = true then 6 else 0)) ∧ Below w.heap.size w w' := by
  have t1 : Calls Try.prog 42 #[.slice (some ⟨w.heap.size, 2, none⟩) 4 4, .func (.func 41) #[] #[]] (w.alloc (.cells #[.int .i64 f, .int .i64 0, .int .u32 a0, .int .u32 a1, .int .u32 a2, .int .u32 a3, .int .i64 0, .int .u32 l0, .int .u32 l1, .int .u32 l2] 26)) fun e w' => e = .returned (.bool b1) ∧ (w.alloc (.cells #[.int .i64 f, .int .i64 0, .int .u32 a0, .int .u32 a1, .int .u32 a2, .int .u32 a3, .int .i64 0, .int .u32 l0, .int .u32 l1, .int .u32 l2] 26)) = w' :=
    contains_row 41 eg41 gr great_p w.heap.size 2 4 [a0, a1, a2, a3] _ _ 26 (Row.new w _ 26) (by simp) (fun i x hi => by
      rcases i with _ | i
      · cases hi; rfl
      rcases i with _ | i
      · cases hi; rfl
      rcases i with _ | i
      · cases hi; rfl
      rcases i with _ | i
      · cases hi; rfl
      cases hi) b1 hb1
  have t2 : Calls Try.prog 42 #[.slice (some ⟨w.heap.size, 7, none⟩) 3 3, .func (.func 41) #[] #[]] (w.alloc (.cells #[.int .i64 f, .int .i64 0, .int .u32 a0, .int .u32 a1, .int .u32 a2, .int .u32 a3, .int .i64 0, .int .u32 l0, .int .u32 l1, .int .u32 l2] 26)) fun e w' => e = .returned (.bool b2) ∧ (w.alloc (.cells #[.int .i64 f, .int .i64 0, .int .u32 a0, .int .u32 a1, .int .u32 a2, .int .u32 a3, .int .i64 0, .int .u32 l0, .int .u32 l1, .int .u32 l2] 26)) = w' :=
    contains_row 41 eg41 gr great_p w.heap.size 7 3 [l0, l1, l2] _ _ 26 (Row.new w _ 26) (by simp) (fun i x hi => by
      rcases i with _ | i
      · cases hi; rfl
      rcases i with _ | i
      · cases hi; rfl
      rcases i with _ | i
      · cases hi; rfl
      cases hi) b2 hb2
  have t3 : Calls Try.prog 42 #[.slice (some ⟨w.heap.size, 3, none⟩) 3 3, .func (.func 43) #[] #[]] (w.alloc (.cells #[.int .i64 f, .int .i64 0, .int .u32 a0, .int .u32 a1, .int .u32 a2, .int .u32 a3, .int .i64 0, .int .u32 l0, .int .u32 l1, .int .u32 l2] 26)) fun e w' => e = .returned (.bool b3) ∧ (w.alloc (.cells #[.int .i64 f, .int .i64 0, .int .u32 a0, .int .u32 a1, .int .u32 a2, .int .u32 a3, .int .i64 0, .int .u32 l0, .int .u32 l1, .int .u32 l2] 26)) = w' :=
    contains_row 43 eg43 so some_p w.heap.size 3 3 [a1, a2, a3] _ _ 26 (Row.new w _ 26) (by simp) (fun i x hi => by
      rcases i with _ | i
      · cases hi; rfl
      rcases i with _ | i
      · cases hi; rfl
      rcases i with _ | i
      · cases hi; rfl
      cases hi) b3 hb3
  have t4 : Calls Try.prog 42 #[.slice (some ⟨w.heap.size, 7, none⟩) 3 3, .func (.func 43) #[] #[]] (w.alloc (.cells #[.int .i64 f, .int .i64 0, .int .u32 a0, .int .u32 a1, .int .u32 a2, .int .u32 a3, .int .i64 0, .int .u32 l0, .int .u32 l1, .int .u32 l2] 26)) fun e w' => e = .returned (.bool b4) ∧ (w.alloc (.cells #[.int .i64 f, .int .i64 0, .int .u32 a0, .int .u32 a1, .int .u32 a2, .int .u32 a3, .int .i64 0, .int .u32 l0, .int .u32 l1, .int .u32 l2] 26)) = w' :=
    contains_row 43 eg43 so some_p w.heap.size 7 3 [l0, l1, l2] _ _ 26 (Row.new w _ 26) (by simp) (fun i x hi => by
      rcases i with _ | i
      · cases hi; rfl
      rcases i with _ | i
      · cases hi; rfl
      rcases i with _ | i
      · cases hi; rfl
      cases hi) b4 hb4
  have T1 := Lib.hid t1
  have T2 := Lib.hid t2
  have T3 := Lib.hid t3
  have T4 := Lib.hid t4
  clear t1 t2 t3 t4 hb1 hb2 hb3 hb4
  have i1 : inB f = true := by simp [inB]; omega
  have i2 : inB 0 = true := by decide
  have i3 : inB (0) = true := by decide
  cases b1
  · cases b2
    · cases b3
      · cases b4
        · go_enter Try.func22, Try.ntmps22
          go_wp2_with (first | (go_at_call 40; refine (there_any _ _).mono ?_; rintro e w' ⟨rfl, rfl⟩) | (go_at_call 42; (with_reducible refine T1.out.mono ?_); rintro e w' ⟨rfl, rfl⟩) | (go_at_call 42; (with_reducible refine T2.out.mono ?_); rintro e w' ⟨rfl, rfl⟩) | (go_at_call 42; (with_reducible refine T3.out.mono ?_); rintro e w' ⟨rfl, rfl⟩) | (go_at_call 42; (with_reducible refine T4.out.mono ?_); rintro e w' ⟨rfl, rfl⟩))
          go_ret
          exact ⟨rfl, below_new _ _⟩
        · go_enter Try.func22, Try.ntmps22
          go_wp2_with (first | (go_at_call 40; refine (there_any _ _).mono ?_; rintro e w' ⟨rfl, rfl⟩) | (go_at_call 42; (with_reducible refine T1.out.mono ?_); rintro e w' ⟨rfl, rfl⟩) | (go_at_call 42; (with_reducible refine T2.out.mono ?_); rintro e w' ⟨rfl, rfl⟩) | (go_at_call 42; (with_reducible refine T3.out.mono ?_); rintro e w' ⟨rfl, rfl⟩) | (go_at_call 42; (with_reducible refine T4.out.mono ?_); rintro e w' ⟨rfl, rfl⟩))
          go_ret
          exact ⟨rfl, below_new _ _⟩
      · go_enter Try.func22, Try.ntmps22
        go_wp2_with (first | (go_at_call 40; refine (there_any _ _).mono ?_; rintro e w' ⟨rfl, rfl⟩) | (go_at_call 42; (with_reducible refine T1.out.mono ?_); rintro e w' ⟨rfl, rfl⟩) | (go_at_call 42; (with_reducible refine T2.out.mono ?_); rintro e w' ⟨rfl, rfl⟩) | (go_at_call 42; (with_reducible refine T3.out.mono ?_); rintro e w' ⟨rfl, rfl⟩) | (go_at_call 42; (with_reducible refine T4.out.mono ?_); rintro e w' ⟨rfl, rfl⟩))
        go_ret
        exact ⟨rfl, below_new _ _⟩
    · go_enter Try.func22, Try.ntmps22
      go_wp2_with (first | (go_at_call 40; refine (there_any _ _).mono ?_; rintro e w' ⟨rfl, rfl⟩) | (go_at_call 42; (with_reducible refine T1.out.mono ?_); rintro e w' ⟨rfl, rfl⟩) | (go_at_call 42; (with_reducible refine T2.out.mono ?_); rintro e w' ⟨rfl, rfl⟩) | (go_at_call 42; (with_reducible refine T3.out.mono ?_); rintro e w' ⟨rfl, rfl⟩) | (go_at_call 42; (with_reducible refine T4.out.mono ?_); rintro e w' ⟨rfl, rfl⟩))
      go_ret
      exact ⟨rfl, below_new _ _⟩
  · go_enter Try.func22, Try.ntmps22
    go_wp2_with (first | (go_at_call 40; refine (there_any _ _).mono ?_; rintro e w' ⟨rfl, rfl⟩) | (go_at_call 42; (with_reducible refine T1.out.mono ?_); rintro e w' ⟨rfl, rfl⟩) | (go_at_call 42; (with_reducible refine T2.out.mono ?_); rintro e w' ⟨rfl, rfl⟩) | (go_at_call 42; (with_reducible refine T3.out.mono ?_); rintro e w' ⟨rfl, rfl⟩) | (go_at_call 42; (with_reducible refine T4.out.mono ?_); rintro e w' ⟨rfl, rfl⟩))
    go_ret
    exact ⟨rfl, below_new _ _⟩
set_option maxHeartbeats 1000000 in
theorem check_01 (f a0 a1 a2 a3 l0 l1 l2 : Int) (w : World) (hf0 : 0 ≤ f) (hf : f ≤ 3) (b1 b2 b3 b4 : Bool) (hb1 : [a0, a1, a2, a3].any gr = b1) (hb2 : [l0, l1, l2].any gr = b2) (hb3 : [a1, a2, a3].any so = b3) (hb4 : [l1, l2].any so = b4) :
    Calls Try.prog 22 #[.agg #[.int .i64 f, .int .i64 0, .int .u32 a0, .int .u32 a1, .int .u32 a2, .int .u32 a3, .int .i64 1, .int .u32 l0, .int .u32 l1, .int .u32 l2]] w fun e w' => e = .returned (.int .i64 (if (b1 || b2) = true then 1 else if (b3 || b4) = true then 6 else 0)) ∧ Below w.heap.size w w' := by
  have t1 : Calls Try.prog 42 #[.slice (some ⟨w.heap.size, 2, none⟩) 4 4, .func (.func 41) #[] #[]] (w.alloc (.cells #[.int .i64 f, .int .i64 0, .int .u32 a0, .int .u32 a1, .int .u32 a2, .int .u32 a3, .int .i64 1, .int .u32 l0, .int .u32 l1, .int .u32 l2] 26)) fun e w' => e = .returned (.bool b1) ∧ (w.alloc (.cells #[.int .i64 f, .int .i64 0, .int .u32 a0, .int .u32 a1, .int .u32 a2, .int .u32 a3, .int .i64 1, .int .u32 l0, .int .u32 l1, .int .u32 l2] 26)) = w' :=
    contains_row 41 eg41 gr great_p w.heap.size 2 4 [a0, a1, a2, a3] _ _ 26 (Row.new w _ 26) (by simp) (fun i x hi => by
      rcases i with _ | i
      · cases hi; rfl
      rcases i with _ | i
      · cases hi; rfl
      rcases i with _ | i
      · cases hi; rfl
      rcases i with _ | i
      · cases hi; rfl
      cases hi) b1 hb1
  have t2 : Calls Try.prog 42 #[.slice (some ⟨w.heap.size, 7, none⟩) 3 3, .func (.func 41) #[] #[]] (w.alloc (.cells #[.int .i64 f, .int .i64 0, .int .u32 a0, .int .u32 a1, .int .u32 a2, .int .u32 a3, .int .i64 1, .int .u32 l0, .int .u32 l1, .int .u32 l2] 26)) fun e w' => e = .returned (.bool b2) ∧ (w.alloc (.cells #[.int .i64 f, .int .i64 0, .int .u32 a0, .int .u32 a1, .int .u32 a2, .int .u32 a3, .int .i64 1, .int .u32 l0, .int .u32 l1, .int .u32 l2] 26)) = w' :=
    contains_row 41 eg41 gr great_p w.heap.size 7 3 [l0, l1, l2] _ _ 26 (Row.new w _ 26) (by simp) (fun i x hi => by
      rcases i with _ | i
      · cases hi; rfl
      rcases i with _ | i
      · cases hi; rfl
      rcases i with _ | i
      · cases hi; rfl
      cases hi) b2 hb2
  have t3 : Calls Try.prog 42 #[.slice (some ⟨w.heap.size, 3, none⟩) 3 3, .func (.func 43) #[] #[]] (w.alloc (.cells #[.int .i64 f, .int .i64 0, .int .u32 a0, .int .u32 a1, .int .u32 a2, .int .u32 a3, .int .i64 1, .int .u32 l0, .int .u32 l1, .int .u32 l2] 26)) fun e w' => e = .returned (.bool b3) ∧ (w.alloc (.cells #[.int .i64 f, .int .i64 0, .int .u32 a0, .int .u32 a1, .int .u32 a2, .int .u32 a3, .int .i64 1, .int .u32 l0, .int .u32 l1, .int .u32 l2] 26)) = w' :=
    contains_row 43 eg43 so some_p w.heap.size 3 3 [a1, a2, a3] _ _ 26 (Row.new w _ 26) (by simp) (fun i x hi => by
      rcases i with _ | i
      · cases hi; rfl
      rcases i with _ | i
      · cases hi; rfl
      rcases i with _ | i
      · cases hi; rfl
      cases hi) b3 hb3
  have t4 : Calls Try.prog 42 #[.slice (some ⟨w.heap.size, 8, none⟩) 2 2, .func (.func 43) #[] #[]] (w.alloc (.cells #[.int .i64 f, .int .i64 0, .int .u32 a0, .int .u32 a1, .int .u32 a2, .int .u32 a3, .int .i64 1, .int .u32 l0, .int .u32 l1, .int .u32 l2] 26)) fun e w' => e = .returned (.bool b4) ∧ (w.alloc (.cells #[.int .i64 f, .int .i64 0, .int .u32 a0, .int .u32 a1, .int .u32 a2, .int .u32 a3, .int .i64 1, .int .u32 l0, .int .u32 l1, .int .u32 l2] 26)) = w' :=
    contains_row 43 eg43 so some_p w.heap.size 8 2 [l1, l2] _ _ 26 (Row.new w _ 26) (by simp) (fun i x hi => by
      rcases i with _ | i
      · cases hi; rfl
      rcases i with _ | i
      · cases hi; rfl
      cases hi) b4 hb4
  have T1 := Lib.hid t1
  have T2 := Lib.hid t2
  have T3 := Lib.hid t3
  have T4 := Lib.hid t4
  clear t1 t2 t3 t4 hb1 hb2 hb3 hb4
  have i1 : inB f = true := by simp [inB]; omega
  have i2 : inB 1 = true := by decide
  have i3 : inB (1) = true := by decide
  cases b1
  · cases b2
    · cases b3
      · cases b4
        · go_enter Try.func22, Try.ntmps22
          go_wp2_with (first | (go_at_call 40; refine (there_any _ _).mono ?_; rintro e w' ⟨rfl, rfl⟩) | (go_at_call 42; (with_reducible refine T1.out.mono ?_); rintro e w' ⟨rfl, rfl⟩) | (go_at_call 42; (with_reducible refine T2.out.mono ?_); rintro e w' ⟨rfl, rfl⟩) | (go_at_call 42; (with_reducible refine T3.out.mono ?_); rintro e w' ⟨rfl, rfl⟩) | (go_at_call 42; (with_reducible refine T4.out.mono ?_); rintro e w' ⟨rfl, rfl⟩))
          go_ret
          exact ⟨rfl, below_new _ _⟩
        · go_enter Try.func22, Try.ntmps22
          go_wp2_with (first | (go_at_call 40; refine (there_any _ _).mono ?_; rintro e w' ⟨rfl, rfl⟩) | (go_at_call 42; (with_reducible refine T1.out.mono ?_); rintro e w' ⟨rfl, rfl⟩) | (go_at_call 42; (with_reducible refine T2.out.mono ?_); rintro e w' ⟨rfl, rfl⟩) | (go_at_call 42; (with_reducible refine T3.out.mono ?_); rintro e w' ⟨rfl, rfl⟩) | (go_at_call 42; (with_reducible refine T4.out.mono ?_); rintro e w' ⟨rfl, rfl⟩))
          go_ret
          exact ⟨rfl, below_new _ _⟩
      · go_enter Try.func22, Try.ntmps22
        go_wp2_with (first | (go_at_call 40; refine (there_any _ _).mono ?_; rintro e w' ⟨rfl, rfl⟩) | (go_at_call 42; (with_reducible refine T1.out.mono ?_); rintro e w' ⟨rfl, rfl⟩) | (go_at_call 42; (with_reducible refine T2.out.mono ?_); rintro e w' ⟨rfl, rfl⟩) | (go_at_call 42; (with_reducible refine T3.out.mono ?_); rintro e w' ⟨rfl, rfl⟩) | (go_at_call 42; (with_reducible refine T4.out.mono ?_); rintro e w' ⟨rfl, rfl⟩))
        go_ret
        exact ⟨rfl, below_new _ _⟩
    · go_enter Try.func22, Try.ntmps22
      go_wp2_with (first | (go_at_call 40; refine (there_any _ _).mono ?_; rintro e w' ⟨rfl, rfl⟩) | (go_at_call 42; (with_reducible refine T1.out.mono ?_); rintro e w' ⟨rfl, rfl⟩) | (go_at_call 42; (with_reducible refine T2.out.mono ?_); rintro e w' ⟨rfl, rfl⟩) | (go_at_call 42; (with_reducible refine T3.out.mono ?_); rintro e w' ⟨rfl, rfl⟩) | (go_at_call 42; (with_reducible refine T4.out.mono ?_); rintro e w' ⟨rfl, rfl⟩))
      go_ret
      exact ⟨rfl, below_new _ _⟩
  · go_enter Try.func22, Try.ntmps22
    go_wp2_with (first | (go_at_call 40; refine (there_any _ _).mono ?_; rintro e w' ⟨rfl, rfl⟩) | (go_at_call 42; (with_reducible refine T1.out.mono ?_); rintro e w' ⟨rfl, rfl⟩) | (go_at_call 42; (with_reducible refine T2.out.mono ?_); rintro e w' ⟨rfl, rfl⟩) | (go_at_call 42; (with_reducible refine T3.out.mono ?_); rintro e w' ⟨rfl, rfl⟩) | (go_at_call 42; (with_reducible refine T4.out.mono ?_); rintro e w' ⟨rfl, rfl⟩))
    go_ret
    exact ⟨rfl, below_new _ _⟩
set_option maxHeartbeats 1000000 in
theorem check_02 (f a0 a1 a2 a3 l0 l1 l2 : Int) (w : World) (hf0 : 0 ≤ f) (hf : f ≤ 3) (b1 b2 b3 b4 : Bool) (hb1 : [a0, a1, a2, a3].any gr = b1) (hb2 : [l0, l1, l2].any gr = b2) (hb3 : [a1, a2, a3].any so = b3) (hb4 : [l2].any so = b4) :
    Calls Try.prog 22 #[.agg #[.int .i64 f, .int .i64 0, .int .u32 a0, .int .u32 a1, .int .u32 a2, .int .u32 a3, .int .i64 2, .int .u32 l0, .int .u32 l1, .int .u32 l2]] w fun e w' => e = .returned (.int .i64 (if (b1 || b2) = true then 1 else if (b3 || b4) = true then 6 else 0)) ∧ Below w.heap.size w w' := by
  have t1 : Calls Try.prog 42 #[.slice (some ⟨w.heap.size, 2, none⟩) 4 4, .func (.func 41) #[] #[]] (w.alloc (.cells #[.int .i64 f, .int .i64 0, .int .u32 a0, .int .u32 a1, .int .u32 a2, .int .u32 a3, .int .i64 2, .int .u32 l0, .int .u32 l1, .int .u32 l2] 26)) fun e w' => e = .returned (.bool b1) ∧ (w.alloc (.cells #[.int .i64 f, .int .i64 0, .int .u32 a0, .int .u32 a1, .int .u32 a2, .int .u32 a3, .int .i64 2, .int .u32 l0, .int .u32 l1, .int .u32 l2] 26)) = w' :=
    contains_row 41 eg41 gr great_p w.heap.size 2 4 [a0, a1, a2, a3] _ _ 26 (Row.new w _ 26) (by simp) (fun i x hi => by
      rcases i with _ | i
      · cases hi; rfl
      rcases i with _ | i
      · cases hi; rfl
      rcases i with _ | i
      · cases hi; rfl
      rcases i with _ | i
      · cases hi; rfl
      cases hi) b1 hb1
  have t2 : Calls Try.prog 42 #[.slice (some ⟨w.heap.size, 7, none⟩) 3 3, .func (.func 41) #[] #[]] (w.alloc (.cells #[.int .i64 f, .int .i64 0, .int .u32 a0, .int .u32 a1, .int .u32 a2, .int .u32 a3, .int .i64 2, .int .u32 l0, .int .u32 l1, .int .u32 l2] 26)) fun e w' => e = .returned (.bool b2) ∧ (w.alloc (.cells #[.int .i64 f, .int .i64 0, .int .u32 a0, .int .u32 a1, .int .u32 a2, .int .u32 a3, .int .i64 2, .int .u32 l0, .int .u32 l1, .int .u32 l2] 26)) = w' :=
    contains_row 41 eg41 gr great_p w.heap.size 7 3 [l0, l1, l2] _ _ 26 (Row.new w _ 26) (by simp) (fun i x hi => by
      rcases i with _ | i
      · cases hi; rfl
      rcases i with _ | i
      · cases hi; rfl
      rcases i with _ | i
      · cases hi; rfl
      cases hi) b2 hb2
  have t3 : Calls Try.prog 42 #[.slice (some ⟨w.heap.size, 3, none⟩) 3 3, .func (.func 43) #[] #[]] (w.alloc (.cells #[.int .i64 f, .int .i64 0, .int .u32 a0, .int .u32 a1, .int .u32 a2, .int .u32 a3, .int .i64 2, .int .u32 l0, .int .u32 l1, .int .u32 l2] 26)) fun e w' => e = .returned (.bool b3) ∧ (w.alloc (.cells #[.int .i64 f, .int .i64 0, .int .u32 a0, .int .u32 a1, .int .u32 a2, .int .u32 a3, .int .i64 2, .int .u32 l0, .int .u32 l1, .int .u32 l2] 26)) = w' :=
    contains_row 43 eg43 so some_p w.heap.size 3 3 [a1, a2, a3] _ _ 26 (Row.new w _ 26) (by simp) (fun i x hi => by
      rcases i with _ | i
      · cases hi; rfl
      rcases i with _ | i
      · cases hi; rfl
      rcases i with _ | i
      · cases hi; rfl
      cases hi) b3 hb3
  have t4 : Calls Try.prog 42 #[.slice (some ⟨w.heap.size, 9, none⟩) 1 1, .func (.func 43) #[] #[]] (w.alloc (.cells #[.int .i64 f, .int .i64 0, .int .u32 a0, .int .u32 a1, .int .u32 a2, .int .u32 a3, .int .i64 2, .int .u32 l0, .int .u32 l1, .int .u32 l2] 26)) fun e w' => e = .returned (.bool b4) ∧ (w.alloc (.cells #[.int .i64 f, .int .i64 0, .int .u32 a0, .int .u32 a1, .int .u32 a2, .int .u32 a3, .int .i64 2, .int .u32 l0, .int .u32 l1, .int .u32 l2] 26)) = w' :=
    contains_row 43 eg43 so some_p w.heap.size 9 1 [l2] _ _ 26 (Row.new w _ 26) (by simp) (fun i x hi => by
      rcases i with _ | i
      · cases hi; rfl
      cases hi) b4 hb4
  have T1 := Lib.hid t1
  have T2 := Lib.hid t2
  have T3 := Lib.hid t3
  have T4 := Lib.hid t4
  clear t1 t2 t3 t4 hb1 hb2 hb3 hb4
  have i1 : inB f = true := by simp [inB]; omega
  have i2 : inB 2 = true := by decide
  have i3 : inB (2) = true := by decide
  cases b1
  · cases b2
    · cases b3
      · cases b4
        · go_enter Try.func22, Try.ntmps22
          go_wp2_with (first | (go_at_call 40; refine (there_any _ _).mono ?_; rintro e w' ⟨rfl, rfl⟩) | (go_at_call 42; (with_reducible refine T1.out.mono ?_); rintro e w' ⟨rfl, rfl⟩) | (go_at_call 42; (with_reducible refine T2.out.mono ?_); rintro e w' ⟨rfl, rfl⟩) | (go_at_call 42; (with_reducible refine T3.out.mono ?_); rintro e w' ⟨rfl, rfl⟩) | (go_at_call 42; (with_reducible refine T4.out.mono ?_); rintro e w' ⟨rfl, rfl⟩))
          go_ret
          exact ⟨rfl, below_new _ _⟩
        · go_enter Try.func22, Try.ntmps22
          go_wp2_with (first | (go_at_call 40; refine (there_any _ _).mono ?_; rintro e w' ⟨rfl, rfl⟩) | (go_at_call 42; (with_reducible refine T1.out.mono ?_); rintro e w' ⟨rfl, rfl⟩) | (go_at_call 42; (with_reducible refine T2.out.mono ?_); rintro e w' ⟨rfl, rfl⟩) | (go_at_call 42; (with_reducible refine T3.out.mono ?_); rintro e w' ⟨rfl, rfl⟩) | (go_at_call 42; (with_reducible refine T4.out.mono ?_); rintro e w' ⟨rfl, rfl⟩))
          go_ret
          exact ⟨rfl, below_new _ _⟩
      · go_enter Try.func22, Try.ntmps22
        go_wp2_with (first | (go_at_call 40; refine (there_any _ _).mono ?_; rintro e w' ⟨rfl, rfl⟩) | (go_at_call 42; (with_reducible refine T1.out.mono ?_); rintro e w' ⟨rfl, rfl⟩) | (go_at_call 42; (with_reducible refine T2.out.mono ?_); rintro e w' ⟨rfl, rfl⟩) | (go_at_call 42; (with_reducible refine T3.out.mono ?_); rintro e w' ⟨rfl, rfl⟩) | (go_at_call 42; (with_reducible refine T4.out.mono ?_); rintro e w' ⟨rfl, rfl⟩))
        go_ret
        exact ⟨rfl, below_new _ _⟩
    · go_enter Try.func22, Try.ntmps22
      go_wp2_with (first | (go_at_call 40; refine (there_any _ _).mono ?_; rintro e w' ⟨rfl, rfl⟩) | (go_at_call 42; (with_reducible refine T1.out.mono ?_); rintro e w' ⟨rfl, rfl⟩) | (go_at_call 42; (with_reducible refine T2.out.mono ?_); rintro e w' ⟨rfl, rfl⟩) | (go_at_call 42; (with_reducible refine T3.out.mono ?_); rintro e w' ⟨rfl, rfl⟩) | (go_at_call 42; (with_reducible refine T4.out.mono ?_); rintro e w' ⟨rfl, rfl⟩))
      go_ret
      exact ⟨rfl, below_new _ _⟩
  · go_enter Try.func22, Try.ntmps22
    go_wp2_with (first | (go_at_call 40; refine (there_any _ _).mono ?_; rintro e w' ⟨rfl, rfl⟩) | (go_at_call 42; (with_reducible refine T1.out.mono ?_); rintro e w' ⟨rfl, rfl⟩) | (go_at_call 42; (with_reducible refine T2.out.mono ?_); rintro e w' ⟨rfl, rfl⟩) | (go_at_call 42; (with_reducible refine T3.out.mono ?_); rintro e w' ⟨rfl, rfl⟩) | (go_at_call 42; (with_reducible refine T4.out.mono ?_); rintro e w' ⟨rfl, rfl⟩))
    go_ret
    exact ⟨rfl, below_new _ _⟩
set_option maxHeartbeats 1000000 in
theorem check_03 (f a0 a1 a2 a3 l0 l1 l2 : Int) (w : World) (hf0 : 0 ≤ f) (hf : f ≤ 3) (b1 b2 b3 b4 : Bool) (hb1 : [a0, a1, a2, a3].any gr = b1) (hb2 : [l0, l1, l2].any gr = b2) (hb3 : [a1, a2, a3].any so = b3) (hb4 : [].any so = b4) :
    Calls Try.prog 22 #[.agg #[.int .i64 f, .int .i64 0, .int .u32 a0, .int .u32 a1, .int .u32 a2, .int .u32 a3, .int .i64 3, .int .u32 l0, .int .u32 l1, .int .u32 l2]] w fun e w' => e = .returned (.int .i64 (if (b1 || b2) = true then 1 else if (b3 || b4) = true then 6 else 0)) ∧ Below w.heap.size w w' := by
  have t1 : Calls Try.prog 42 #[.slice (some ⟨w.heap.size, 2, none⟩) 4 4, .func (.func 41) #[] #[]] (w.alloc (.cells #[.int .i64 f, .int .i64 0, .int .u32 a0, .int .u32 a1, .int .u32 a2, .int .u32 a3, .int .i64 3, .int .u32 l0, .int .u32 l1, .int .u32 l2] 26)) fun e w' => e = .returned (.bool b1) ∧ (w.alloc (.cells #[.int .i64 f, .int .i64 0, .int .u32 a0, .int .u32 a1, .int .u32 a2, .int .u32 a3, .int .i64 3, .int .u32 l0, .int .u32 l1, .int .u32 l2] 26)) = w' :=
    contains_row 41 eg41 gr great_p w.heap.size 2 4 [a0, a1, a2, a3] _ _ 26 (Row.new w _ 26) (by simp) (fun i x hi => by
      rcases i with _ | i
      · cases hi; rfl
      rcases i with _ | i
      · cases hi; rfl
      rcases i with _ | i
      · cases hi; rfl
      rcases i with _ | i
      · cases hi; rfl
      cases hi) b1 hb1
  have t2 : Calls Try.prog 42 #[.slice (some ⟨w.heap.size, 7, none⟩) 3 3, .func (.func 41) #[] #[]] (w.alloc (.cells #[.int .i64 f, .int .i64 0, .int .u32 a0, .int .u32 a1, .int .u32 a2, .int .u32 a3, .int .i64 3, .int .u32 l0, .int .u32 l1, .int .u32 l2] 26)) fun e w' => e = .returned (.bool b2) ∧ (w.alloc (.cells #[.int .i64 f, .int .i64 0, .int .u32 a0, .int .u32 a1, .int .u32 a2, .int .u32 a3, .int .i64 3, .int .u32 l0, .int .u32 l1, .int .u32 l2] 26)) = w' :=
    contains_row 41 eg41 gr great_p w.heap.size 7 3 [l0, l1, l2] _ _ 26 (Row.new w _ 26) (by simp) (fun i x hi => by
      rcases i with _ | i
      · cases hi; rfl
      rcases i with _ | i
      · cases hi; rfl
      rcases i with _ | i
      · cases hi; rfl
      cases hi) b2 hb2
  have t3 : Calls Try.prog 42 #[.slice (some ⟨w.heap.size, 3, none⟩) 3 3, .func (.func 43) #[] #[]] (w.alloc (.cells #[.int .i64 f, .int .i64 0, .int .u32 a0, .int .u32 a1, .int .u32 a2, .int .u32 a3, .int .i64 3, .int .u32 l0, .int .u32 l1, .int .u32 l2] 26)) fun e w' => e = .returned (.bool b3) ∧ (w.alloc (.cells #[.int .i64 f, .int .i64 0, .int .u32 a0, .int .u32 a1, .int .u32 a2, .int .u32 a3, .int .i64 3, .int .u32 l0, .int .u32 l1, .int .u32 l2] 26)) = w' :=
    contains_row 43 eg43 so some_p w.heap.size 3 3 [a1, a2, a3] _ _ 26 (Row.new w _ 26) (by simp) (fun i x hi => by
      rcases i with _ | i
      · cases hi; rfl
      rcases i with _ | i
      · cases hi; rfl
      rcases i with _ | i
      · cases hi; rfl
      cases hi) b3 hb3
  have t4 : Calls Try.prog 42 #[.slice (some ⟨w.heap.size, 7, none⟩) 0 0, .func (.func 43) #[] #[]] (w.alloc (.cells #[.int .i64 f, .int .i64 0, .int .u32 a0, .int .u32 a1, .int .u32 a2, .int .u32 a3, .int .i64 3, .int .u32 l0, .int .u32 l1, .int .u32 l2] 26)) fun e w' => e = .returned (.bool b4) ∧ (w.alloc (.cells #[.int .i64 f, .int .i64 0, .int .u32 a0, .int .u32 a1, .int .u32 a2, .int .u32 a3, .int .i64 3, .int .u32 l0, .int .u32 l1, .int .u32 l2] 26)) = w' :=
    contains_row 43 eg43 so some_p w.heap.size 7 0 [] _ _ 26 (Row.new w _ 26) (by simp) (fun i x hi => by
      cases hi) b4 hb4
  have T1 := Lib.hid t1
  have T2 := Lib.hid t2
  have T3 := Lib.hid t3
  have T4 := Lib.hid t4
  clear t1 t2 t3 t4 hb1 hb2 hb3 hb4
  have i1 : inB f = true := by simp [inB]; omega
  have i2 : inB 3 = true := by decide
  have i3 : inB (3) = true := by decide
  cases b1
  · cases b2
    · cases b3
      · cases b4
        · go_enter Try.func22, Try.ntmps22
          go_wp2_with (first | (go_at_call 40; refine (there_any _ _).mono ?_; rintro e w' ⟨rfl, rfl⟩) | (go_at_call 42; (with_reducible refine T1.out.mono ?_); rintro e w' ⟨rfl, rfl⟩) | (go_at_call 42; (with_reducible refine T2.out.mono ?_); rintro e w' ⟨rfl, rfl⟩) | (go_at_call 42; (with_reducible refine T3.out.mono ?_); rintro e w' ⟨rfl, rfl⟩) | (go_at_call 42; (with_reducible refine T4.out.mono ?_); rintro e w' ⟨rfl, rfl⟩))
          go_ret
          exact ⟨rfl, below_new _ _⟩
        · go_enter Try.func22, Try.ntmps22
          go_wp2_with (first | (go_at_call 40; refine (there_any _ _).mono ?_; rintro e w' ⟨rfl, rfl⟩) | (go_at_call 42; (with_reducible refine T1.out.mono ?_); rintro e w' ⟨rfl, rfl⟩) | (go_at_call 42; (with_reducible refine T2.out.mono ?_); rintro e w' ⟨rfl, rfl⟩) | (go_at_call 42; (with_reducible refine T3.out.mono ?_); rintro e w' ⟨rfl, rfl⟩) | (go_at_call 42; (with_reducible refine T4.out.mono ?_); rintro e w' ⟨rfl, rfl⟩))
          go_ret
          exact ⟨rfl, below_new _ _⟩
      · go_enter Try.func22, Try.ntmps22
        go_wp2_with (first | (go_at_call 40; refine (there_any _ _).mono ?_; rintro e w' ⟨rfl, rfl⟩) | (go_at_call 42; (with_reducible refine T1.out.mono ?_); rintro e w' ⟨rfl, rfl⟩) | (go_at_call 42; (with_reducible refine T2.out.mono ?_); rintro e w' ⟨rfl, rfl⟩) | (go_at_call 42; (with_reducible refine T3.out.mono ?_); rintro e w' ⟨rfl, rfl⟩) | (go_at_call 42; (with_reducible refine T4.out.mono ?_); rintro e w' ⟨rfl, rfl⟩))
        go_ret
        exact ⟨rfl, below_new _ _⟩
    · go_enter Try.func22, Try.ntmps22
      go_wp2_with (first | (go_at_call 40; refine (there_any _ _).mono ?_; rintro e w' ⟨rfl, rfl⟩) | (go_at_call 42; (with_reducible refine T1.out.mono ?_); rintro e w' ⟨rfl, rfl⟩) | (go_at_call 42; (with_reducible refine T2.out.mono ?_); rintro e w' ⟨rfl, rfl⟩) | (go_at_call 42; (with_reducible refine T3.out.mono ?_); rintro e w' ⟨rfl, rfl⟩) | (go_at_call 42; (with_reducible refine T4.out.mono ?_); rintro e w' ⟨rfl, rfl⟩))
      go_ret
      exact ⟨rfl, below_new _ _⟩
  · go_enter Try.func22, Try.ntmps22
    go_wp2_with (first | (go_at_call 40; refine (there_any _ _).mono ?_; rintro e w' ⟨rfl, rfl⟩) | (go_at_call 42; (with_reducible refine T1.out.mono ?_); rintro e w' ⟨rfl, rfl⟩) | (go_at_call 42; (with_reducible refine T2.out.mono ?_); rintro e w' ⟨rfl, rfl⟩) | (go_at_call 42; (with_reducible refine T3.out.mono ?_); rintro e w' ⟨rfl, rfl⟩) | (go_at_call 42; (with_reducible refine T4.out.mono ?_); rintro e w' ⟨rfl, rfl⟩))
    go_ret
    exact ⟨rfl, below_new _ _⟩
set_option maxHeartbeats 1000000 in
theorem check_10 (f a0 a1 a2 a3 l0 l1 l2 : Int) (w : World) (hf0 : 1 ≤ f) (hf : f ≤ 3) (b1 b2 b3 b4 : Bool) (hb1 : [a0, a1, a2, a3].any gr = b1) (hb2 : [l0, l1, l2].any gr = b2) (hb3 : [a2, a3].any so = b3) (hb4 : [l0, l1, l2].any so = b4) :
    Calls Try.prog 22 #[.agg #[.int .i64 f, .int .i64 1, .int .u32 a0, .int .u32 a1, .int .u32 a2, .int .u32 a3, .int .i64 0, .int .u32 l0, .int .u32 l1, .int .u32 l2]] w fun e w' => e = .returned (.int .i64 (if (b1 || b2) = true then 1 else if (b3 || b4) = true then 6 else 0)) ∧ Below w.heap.size w w' := by
  have t1 : Calls Try.prog 42 #[.slice (some ⟨w.heap.size, 2, none⟩) 4 4, .func (.func 41) #[] #[]] (w.alloc (.cells #[.int .i64 f, .int .i64 1, .int .u32 a0, .int .u32 a1, .int .u32 a2, .int .u32 a3, .int .i64 0, .int .u32 l0, .int .u32 l1, .int .u32 l2] 26)) fun e w' => e = .returned (.bool b1) ∧ (w.alloc (.cells #[.int .i64 f, .int .i64 1, .int .u32 a0, .int .u32 a1, .int .u32 a2, .int .u32 a3, .int .i64 0, .int .u32 l0, .int .u32 l1, .int .u32 l2] 26)) = w' :=
    contains_row 41 eg41 gr great_p w.heap.size 2 4 [a0, a1, a2, a3] _ _ 26 (Row.new w _ 26) (by simp) (fun i x hi => by
      rcases i with _ | i
      · cases hi; rfl
      rcases i with _ | i
      · cases hi; rfl
      rcases i with _ | i
      · cases hi; rfl
      rcases i with _ | i
      · cases hi; rfl
      cases hi) b1 hb1
  have t2 : Calls Try.prog 42 #[.slice (some ⟨w.heap.size, 7, none⟩) 3 3, .func (.func 41) #[] #[]] (w.alloc (.cells #[.int .i64 f, .int .i64 1, .int .u32 a0, .int .u32 a1, .int .u32 a2, .int .u32 a3, .int .i64 0, .int .u32 l0, .int .u32 l1, .int .u32 l2] 26)) fun e w' => e = .returned (.bool b2) ∧ (w.alloc (.cells #[.int .i64 f, .int .i64 1, .int .u32 a0, .int .u32 a1, .int .u32 a2, .int .u32 a3, .int .i64 0, .int .u32 l0, .int .u32 l1, .int .u32 l2] 26)) = w' :=
    contains_row 41 eg41 gr great_p w.heap.size 7 3 [l0, l1, l2] _ _ 26 (Row.new w _ 26) (by simp) (fun i x hi => by
      rcases i with _ | i
      · cases hi; rfl
      rcases i with _ | i
      · cases hi; rfl
      rcases i with _ | i
      · cases hi; rfl
      cases hi) b2 hb2
  have t3 : Calls Try.prog 42 #[.slice (some ⟨w.heap.size, 4, none⟩) 2 2, .func (.func 43) #[] #[]] (w.alloc (.cells #[.int .i64 f, .int .i64 1, .int .u32 a0, .int .u32 a1, .int .u32 a2, .int .u32 a3, .int .i64 0, .int .u32 l0, .int .u32 l1, .int .u32 l2] 26)) fun e w' => e = .returned (.bool b3) ∧ (w.alloc (.cells #[.int .i64 f, .int .i64 1, .int .u32 a0, .int .u32 a1, .int .u32 a2, .int .u32 a3, .int .i64 0, .int .u32 l0, .int .u32 l1, .int .u32 l2] 26)) = w' :=
    contains_row 43 eg43 so some_p w.heap.size 4 2 [a2, a3] _ _ 26 (Row.new w _ 26) (by simp) (fun i x hi => by
      rcases i with _ | i
      · cases hi; rfl
      rcases i with _ | i
      · cases hi; rfl
      cases hi) b3 hb3
  have t4 : Calls Try.prog 42 #[.slice (some ⟨w.heap.size, 7, none⟩) 3 3, .func (.func 43) #[] #[]] (w.alloc (.cells #[.int .i64 f, .int .i64 1, .int .u32 a0, .int .u32 a1, .int .u32 a2, .int .u32 a3, .int .i64 0, .int .u32 l0, .int .u32 l1, .int .u32 l2] 26)) fun e w' => e = .returned (.bool b4) ∧ (w.alloc (.cells #[.int .i64 f, .int .i64 1, .int .u32 a0, .int .u32 a1, .int .u32 a2, .int .u32 a3, .int .i64 0, .int .u32 l0, .int .u32 l1, .int .u32 l2] 26)) = w' :=
    contains_row 43 eg43 so some_p w.heap.size 7 3 [l0, l1, l2] _ _ 26 (Row.new w _ 26) (by simp) (fun i x hi => by
      rcases i with _ | i
      · cases hi; rfl
      rcases i with _ | i
      · cases hi; rfl
      rcases i with _ | i
      · cases hi; rfl
      cases hi) b4 hb4
  have T1 := Lib.hid t1
  have T2 := Lib.hid t2
  have T3 := Lib.hid t3
  have T4 := Lib.hid t4
  clear t1 t2 t3 t4 hb1 hb2 hb3 hb4
  have i1 : inB f = true := by simp [inB]; omega
  have i2 : inB 0 = true := by decide
  have i3 : inB (1) = true := by decide
  cases b1
  · cases b2
    · cases b3
      · cases b4
        · go_enter Try.func22, Try.ntmps22
          go_wp2_with (first | (go_at_call 40; refine (there_any _ _).mono ?_; rintro e w' ⟨rfl, rfl⟩) | (go_at_call 42; (with_reducible refine T1.out.mono ?_); rintro e w' ⟨rfl, rfl⟩) | (go_at_call 42; (with_reducible refine T2.out.mono ?_); rintro e w' ⟨rfl, rfl⟩) | (go_at_call 42; (with_reducible refine T3.out.mono ?_); rintro e w' ⟨rfl, rfl⟩) | (go_at_call 42; (with_reducible refine T4.out.mono ?_); rintro e w' ⟨rfl, rfl⟩))
          go_ret
          exact ⟨rfl, below_new _ _⟩
        · go_enter Try.func22, Try.ntmps22
          go_wp2_with (first | (go_at_call 40; refine (there_any _ _).mono ?_; rintro e w' ⟨rfl, rfl⟩) | (go_at_call 42; (with_reducible refine T1.out.mono ?_); rintro e w' ⟨rfl, rfl⟩) | (go_at_call 42; (with_reducible refine T2.out.mono ?_); rintro e w' ⟨rfl, rfl⟩) | (go_at_call 42; (with_reducible refine T3.out.mono ?_); rintro e w' ⟨rfl, rfl⟩) | (go_at_call 42; (with_reducible refine T4.out.mono ?_); rintro e w' ⟨rfl, rfl⟩))
          go_ret
          exact ⟨rfl, below_new _ _⟩
      · go_enter Try.func22, Try.ntmps22
        go_wp2_with (first | (go_at_call 40; refine (there_any _ _).mono ?_; rintro e w' ⟨rfl, rfl⟩) | (go_at_call 42; (with_reducible refine T1.out.mono ?_); rintro e w' ⟨rfl, rfl⟩) | (go_at_call 42; (with_reducible refine T2.out.mono ?_); rintro e w' ⟨rfl, rfl⟩) | (go_at_call 42; (with_reducible refine T3.out.mono ?_); rintro e w' ⟨rfl, rfl⟩) | (go_at_call 42; (with_reducible refine T4.out.mono ?_); rintro e w' ⟨rfl, rfl⟩))
        go_ret
        exact ⟨rfl, below_new _ _⟩
    · go_enter Try.func22, Try.ntmps22
      go_wp2_with (first | (go_at_call 40; refine (there_any _ _).mono ?_; rintro e w' ⟨rfl, rfl⟩) | (go_at_call 42; (with_reducible refine T1.out.mono ?_); rintro e w' ⟨rfl, rfl⟩) | (go_at_call 42; (with_reducible refine T2.out.mono ?_); rintro e w' ⟨rfl, rfl⟩) | (go_at_call 42; (with_reducible refine T3.out.mono ?_); rintro e w' ⟨rfl, rfl⟩) | (go_at_call 42; (with_reducible refine T4.out.mono ?_); rintro e w' ⟨rfl, rfl⟩))
      go_ret
      exact ⟨rfl, below_new _ _⟩
  · go_enter Try.func22, Try.ntmps22
    go_wp2_with (first | (go_at_call 40; refine (there_any _ _).mono ?_; rintro e w' ⟨rfl, rfl⟩) | (go_at_call 42; (with_reducible refine T1.out.mono ?_); rintro e w' ⟨rfl, rfl⟩) | (go_at_call 42; (with_reducible refine T2.out.mono ?_); rintro e w' ⟨rfl, rfl⟩) | (go_at_call 42; (with_reducible refine T3.out.mono ?_); rintro e w' ⟨rfl, rfl⟩) | (go_at_call 42; (with_reducible refine T4.out.mono ?_); rintro e w' ⟨rfl, rfl⟩))
    go_ret
    exact ⟨rfl, below_new _ _⟩
set_option maxHeartbeats 1000000 in
theorem check_11 (f a0 a1 a2 a3 l0 l1 l2 : Int) (w : World) (hf0 : 1 ≤ f) (hf : f ≤ 3) (b1 b2 b3 b4 : Bool) (hb1 : [a0, a1, a2, a3].any gr = b1) (hb2 : [l0, l1, l2].any gr = b2) (hb3 : [a2, a3].any so = b3) (hb4 : [l1, l2].any so = b4) :
    Calls Try.prog 22 #[.agg #[.int .i64 f, .int .i64 1, .int .u32 a0, .int .u32 a1, .int .u32 a2, .int .u32 a3, .int .i64 1, .int .u32 l0, .int .u32 l1, .int .u32 l2]] w fun e w' => e = .returned (.int .i64 (if (b1 || b2) = true then 1 else if (b3 || b4) = true then 6 else 0)) ∧ Below w.heap.size w w' := by
  have t1 : Calls Try.prog 42 #[.slice (some ⟨w.heap.size, 2, none⟩) 4 4, .func (.func 41) #[] #[]] (w.alloc (.cells #[.int .i64 f, .int .i64 1, .int .u32 a0, .int .u32 a1, .int .u32 a2, .int .u32 a3, .int .i64 1, .int .u32 l0, .int .u32 l1, .int .u32 l2] 26)) fun e w' => e = .returned (.bool b1) ∧ (w.alloc (.cells #[.int .i64 f, .int .i64 1, .int .u32 a0, .int .u32 a1, .int .u32 a2, .int .u32 a3, .int .i64 1, .int .u32 l0, .int .u32 l1, .int .u32 l2] 26)) = w' :=
    contains_row 41 eg41 gr great_p w.heap.size 2 4 [a0, a1, a2, a3] _ _ 26 (Row.new w _ 26) (by simp) (fun i x hi => by
      rcases i with _ | i
      · cases hi; rfl
      rcases i with _ | i
      · cases hi; rfl
      rcases i with _ | i
      · cases hi; rfl
      rcases i with _ | i
      · cases hi; rfl
      cases hi) b1 hb1
  have t2 : Calls Try.prog 42 #[.slice (some ⟨w.heap.size, 7, none⟩) 3 3, .func (.func 41) #[] #[]] (w.alloc (.cells #[.int .i64 f, .int .i64 1, .int .u32 a0, .int .u32 a1, .int .u32 a2, .int .u32 a3, .int .i64 1, .int .u32 l0, .int .u32 l1, .int .u32 l2] 26)) fun e w' => e = .returned (.bool b2) ∧ (w.alloc (.cells #[.int .i64 f, .int .i64 1, .int .u32 a0, .int .u32 a1, .int .u32 a2, .int .u32 a3, .int .i64 1, .int .u32 l0, .int .u32 l1, .int .u32 l2] 26)) = w' :=
    contains_row 41 eg41 gr great_p w.heap.size 7 3 [l0, l1, l2] _ _ 26 (Row.new w _ 26) (by simp) (fun i x hi => by
      rcases i with _ | i
      · cases hi; rfl
      rcases i with _ | i
      · cases hi; rfl
      rcases i with _ | i
      · cases hi; rfl
      cases hi) b2 hb2
  have t3 : Calls Try.prog 42 #[.slice (some ⟨w.heap.size, 4, none⟩) 2 2, .func (.func 43) #[] #[]] (w.alloc (.cells #[.int .i64 f, .int .i64 1, .int .u32 a0, .int .u32 a1, .int .u32 a2, .int .u32 a3, .int .i64 1, .int .u32 l0, .int .u32 l1, .int .u32 l2] 26)) fun e w' => e = .returned (.bool b3) ∧ (w.alloc (.cells #[.int .i64 f, .int .i64 1, .int .u32 a0, .int .u32 a1, .int .u32 a2, .int .u32 a3, .int .i64 1, .int .u32 l0, .int .u32 l1, .int .u32 l2] 26)) = w' :=
    contains_row 43 eg43 so some_p w.heap.size 4 2 [a2, a3] _ _ 26 (Row.new w _ 26) (by simp) (fun i x hi => by
      rcases i with _ | i
      · cases hi; rfl
      rcases i with _ | i
      · cases hi; rfl
      cases hi) b3 hb3
  have t4 : Calls Try.prog 42 #[.slice (some ⟨w.heap.size, 8, none⟩) 2 2, .func (.func 43) #[] #[]] (w.alloc (.cells #[.int .i64 f, .int .i64 1, .int .u32 a0, .int .u32 a1, .int .u32 a2, .int .u32 a3, .int .i64 1, .int .u32 l0, .int .u32 l1, .int .u32 l2] 26)) fun e w' => e = .returned (.bool b4) ∧ (w.alloc (.cells #[.int .i64 f, .int .i64 1, .int .u32 a0, .int .u32 a1, .int .u32 a2, .int .u32 a3, .int .i64 1, .int .u32 l0, .int .u32 l1, .int .u32 l2] 26)) = w' :=
    contains_row 43 eg43 so some_p w.heap.size 8 2 [l1, l2] _ _ 26 (Row.new w _ 26) (by simp) (fun i x hi => by
      rcases i with _ | i
      · cases hi; rfl
      rcases i with _ | i
      · cases hi; rfl
      cases hi) b4 hb4
  have T1 := Lib.hid t1
  have T2 := Lib.hid t2
  have T3 := Lib.hid t3
  have T4 := Lib.hid t4
  clear t1 t2 t3 t4 hb1 hb2 hb3 hb4
  have i1 : inB f = true := by simp [inB]; omega
  have i2 : inB 1 = true := by decide
  have i3 : inB (2) = true := by decide
  cases b1
  · cases b2
    · cases b3
      · cases b4
        · go_enter Try.func22, Try.ntmps22
          go_wp2_with (first | (go_at_call 40; refine (there_any _ _).mono ?_; rintro e w' ⟨rfl, rfl⟩) | (go_at_call 42; (with_reducible refine T1.out.mono ?_); rintro e w' ⟨rfl, rfl⟩) | (go_at_call 42; (with_reducible refine T2.out.mono ?_); rintro e w' ⟨rfl, rfl⟩) | (go_at_call 42; (with_reducible refine T3.out.mono ?_); rintro e w' ⟨rfl, rfl⟩) | (go_at_call 42; (with_reducible refine T4.out.mono ?_); rintro e w' ⟨rfl, rfl⟩))
          go_ret
          exact ⟨rfl, below_new _ _⟩
        · go_enter Try.func22, Try.ntmps22
          go_wp2_with (first | (go_at_call 40; refine (there_any _ _).mono ?_; rintro e w' ⟨rfl, rfl⟩) | (go_at_call 42; (with_reducible refine T1.out.mono ?_); rintro e w' ⟨rfl, rfl⟩) | (go_at_call 42; (with_reducible refine T2.out.mono ?_); rintro e w' ⟨rfl, rfl⟩) | (go_at_call 42; (with_reducible refine T3.out.mono ?_); rintro e w' ⟨rfl, rfl⟩) | (go_at_call 42; (with_reducible refine T4.out.mono ?_); rintro e w' ⟨rfl, rfl⟩))
          go_ret
          exact ⟨rfl, below_new _ _⟩
      · go_enter Try.func22, Try.ntmps22
        go_wp2_with (first | (go_at_call 40; refine (there_any _ _).mono ?_; rintro e w' ⟨rfl, rfl⟩) | (go_at_call 42; (with_reducible refine T1.out.mono ?_); rintro e w' ⟨rfl, rfl⟩) | (go_at_call 42; (with_reducible refine T2.out.mono ?_); rintro e w' ⟨rfl, rfl⟩) | (go_at_call 42; (with_reducible refine T3.out.mono ?_); rintro e w' ⟨rfl, rfl⟩) | (go_at_call 42; (with_reducible refine T4.out.mono ?_); rintro e w' ⟨rfl, rfl⟩))
        go_ret
        exact ⟨rfl, below_new _ _⟩
    · go_enter Try.func22, Try.ntmps22
      go_wp2_with (first | (go_at_call 40; refine (there_any _ _).mono ?_; rintro e w' ⟨rfl, rfl⟩) | (go_at_call 42; (with_reducible refine T1.out.mono ?_); rintro e w' ⟨rfl, rfl⟩) | (go_at_call 42; (with_reducible refine T2.out.mono ?_); rintro e w' ⟨rfl, rfl⟩) | (go_at_call 42; (with_reducible refine T3.out.mono ?_); rintro e w' ⟨rfl, rfl⟩) | (go_at_call 42; (with_reducible refine T4.out.mono ?_); rintro e w' ⟨rfl, rfl⟩))
      go_ret
      exact ⟨rfl, below_new _ _⟩
  · go_enter Try.func22, Try.ntmps22
    go_wp2_with (first | (go_at_call 40; refine (there_any _ _).mono ?_; rintro e w' ⟨rfl, rfl⟩) | (go_at_call 42; (with_reducible refine T1.out.mono ?_); rintro e w' ⟨rfl, rfl⟩) | (go_at_call 42; (with_reducible refine T2.out.mono ?_); rintro e w' ⟨rfl, rfl⟩) | (go_at_call 42; (with_reducible refine T3.out.mono ?_); rintro e w' ⟨rfl, rfl⟩) | (go_at_call 42; (with_reducible refine T4.out.mono ?_); rintro e w' ⟨rfl, rfl⟩))
    go_ret
    exact ⟨rfl, below_new _ _⟩
set_option maxHeartbeats 1000000 in
theorem check_12 (f a0 a1 a2 a3 l0 l1 l2 : Int) (w : World) (hf0 : 1 ≤ f) (hf : f ≤ 3) (b1 b2 b3 b4 : Bool) (hb1 : [a0, a1, a2, a3].any gr = b1) (hb2 : [l0, l1, l2].any gr = b2) (hb3 : [a2, a3].any so = b3) (hb4 : [l2].any so = b4) :
    Calls Try.prog 22 #[.agg #[.int .i64 f, .int .i64 1, .int .u32 a0, .int .u32 a1, .int .u32 a2, .int .u32 a3, .int .i64 2, .int .u32 l0, .int .u32 l1, .int .u32 l2]] w fun e w' => e = .returned (.int .i64 (if (b1 || b2) = true then 1 else if (b3 || b4) = true then 6 else 0)) ∧ Below w.heap.size w w' := by
  have t1 : Calls Try.prog 42 #[.slice (some ⟨w.heap.size, 2, none⟩) 4 4, .func (.func 41) #[] #[]] (w.alloc (.cells #[.int .i64 f, .int .i64 1, .int .u32 a0, .int .u32 a1, .int .u32 a2, .int .u32 a3, .int .i64 2, .int .u32 l0, .int .u32 l1, .int .u32 l2] 26)) fun e w' => e = .returned (.bool b1) ∧ (w.alloc (.cells #[.int .i64 f, .int .i64 1, .int .u32 a0, .int .u32 a1, .int .u32 a2, .int .u32 a3, .int .i64 2, .int .u32 l0, .int .u32 l1, .int .u32 l2] 26)) = w' :=
    contains_row 41 eg41 gr great_p w.heap.size 2 4 [a0, a1, a2, a3] _ _ 26 (Row.new w _ 26) (by simp) (fun i x hi => by
      rcases i with _ | i
      · cases hi; rfl
      rcases i with _ | i
      · cases hi; rfl
      rcases i with _ | i
      · cases hi; rfl
      rcases i with _ | i
      · cases hi; rfl
      cases hi) b1 hb1
  have t2 : Calls Try.prog 42 #[.slice (some ⟨w.heap.size, 7, none⟩) 3 3, .func (.func 41) #[] #[]] (w.alloc (.cells #[.int .i64 f, .int .i64 1, .int .u32 a0, .int .u32 a1, .int .u32 a2, .int .u32 a3, .int .i64 2, .int .u32 l0, .int .u32 l1, .int .u32 l2] 26)) fun e w' => e = .returned (.bool b2) ∧ (w.alloc (.cells #[.int .i64 f, .int .i64 1, .int .u32 a0, .int .u32 a1, .int .u32 a2, .int .u32 a3, .int .i64 2, .int .u32 l0, .int .u32 l1, .int .u32 l2] 26)) = w' :=
    contains_row 41 eg41 gr great_p w.heap.size 7 3 [l0, l1, l2] _ _ 26 (Row.new w _ 26) (by simp) (fun i x hi => by
      rcases i with _ | i
      · cases hi; rfl
      rcases i with _ | i
      · cases hi; rfl
      rcases i with _ | i
      · cases hi; rfl
      cases hi) b2 hb2
  have t3 : Calls Try.prog 42 #[.slice (some ⟨w.heap.size, 4, none⟩) 2 2, .func (.func 43) #[] #[]] (w.alloc (.cells #[.int .i64 f, .int .i64 1, .int .u32 a0, .int .u32 a1, .int .u32 a2, .int .u32 a3, .int .i64 2, .int .u32 l0, .int .u32 l1, .int .u32 l2] 26)) fun e w' => e = .returned (.bool b3) ∧ (w.alloc (.cells #[.int .i64 f, .int .i64 1, .int .u32 a0, .int .u32 a1, .int .u32 a2, .int .u32 a3, .int .i64 2, .int .u32 l0, .int .u32 l1, .int .u32 l2] 26)) = w' :=
    contains_row 43 eg43 so some_p w.heap.size 4 2 [a2, a3] _ _ 26 (Row.new w _ 26) (by simp) (fun i x hi => by
      rcases i with _ | i
      · cases hi; rfl
      rcases i with _ | i
      · cases hi; rfl
      cases hi) b3 hb3
  have t4 : Calls Try.prog 42 #[.slice (some ⟨w.heap.size, 9, none⟩) 1 1, .func (.func 43) #[] #[]] (w.alloc (.cells #[.int .i64 f, .int .i64 1, .int .u32 a0, .int .u32 a1, .int .u32 a2, .int .u32 a3, .int .i64 2, .int .u32 l0, .int .u32 l1, .int .u32 l2] 26)) fun e w' => e = .returned (.bool b4) ∧ (w.alloc (.cells #[.int .i64 f, .int .i64 1, .int .u32 a0, .int .u32 a1, .int .u32 a2, .int .u32 a3, .int .i64 2, .int .u32 l0, .int .u32 l1, .int .u32 l2] 26)) = w' :=
    contains_row 43 eg43 so some_p w.heap.size 9 1 [l2] _ _ 26 (Row.new w _ 26) (by simp) (fun i x hi => by
      rcases i with _ | i
      · cases hi; rfl
      cases hi) b4 hb4
  have T1 := Lib.hid t1
  have T2 := Lib.hid t2
  have T3 := Lib.hid t3
  have T4 := Lib.hid t4
  clear t1 t2 t3 t4 hb1 hb2 hb3 hb4
  have i1 : inB f = true := by simp [inB]; omega
  have i2 : inB 2 = true := by decide
  have i3 : inB (3) = true := by decide
  cases b1
  · cases b2
    · cases b3
      · cases b4
        · go_enter Try.func22, Try.ntmps22
          go_wp2_with (first | (go_at_call 40; refine (there_any _ _).mono ?_; rintro e w' ⟨rfl, rfl⟩) | (go_at_call 42; (with_reducible refine T1.out.mono ?_); rintro e w' ⟨rfl, rfl⟩) | (go_at_call 42; (with_reducible refine T2.out.mono ?_); rintro e w' ⟨rfl, rfl⟩) | (go_at_call 42; (with_reducible refine T3.out.mono ?_); rintro e w' ⟨rfl, rfl⟩) | (go_at_call 42; (with_reducible refine T4.out.mono ?_); rintro e w' ⟨rfl, rfl⟩))
          go_ret
          exact ⟨rfl, below_new _ _⟩
        · go_enter Try.func22, Try.ntmps22
          go_wp2_with (first | (go_at_call 40; refine (there_any _ _).mono ?_; rintro e w' ⟨rfl, rfl⟩) | (go_at_call 42; (with_reducible refine T1.out.mono ?_); rintro e w' ⟨rfl, rfl⟩) | (go_at_call 42; (with_reducible refine T2.out.mono ?_); rintro e w' ⟨rfl, rfl⟩) | (go_at_call 42; (with_reducible refine T3.out.mono ?_); rintro e w' ⟨rfl, rfl⟩) | (go_at_call 42; (with_reducible refine T4.out.mono ?_); rintro e w' ⟨rfl, rfl⟩))
          go_ret
          exact ⟨rfl, below_new _ _⟩
      · go_enter Try.func22, Try.ntmps22
        go_wp2_with (first | (go_at_call 40; refine (there_any _ _).mono ?_; rintro e w' ⟨rfl, rfl⟩) | (go_at_call 42; (with_reducible refine T1.out.mono ?_); rintro e w' ⟨rfl, rfl⟩) | (go_at_call 42; (with_reducible refine T2.out.mono ?_); rintro e w' ⟨rfl, rfl⟩) | (go_at_call 42; (with_reducible refine T3.out.mono ?_); rintro e w' ⟨rfl, rfl⟩) | (go_at_call 42; (with_reducible refine T4.out.mono ?_); rintro e w' ⟨rfl, rfl⟩))
        go_ret
        exact ⟨rfl, below_new _ _⟩
    · go_enter Try.func22, Try.ntmps22
      go_wp2_with (first | (go_at_call 40; refine (there_any _ _).mono ?_; rintro e w' ⟨rfl, rfl⟩) | (go_at_call 42; (with_reducible refine T1.out.mono ?_); rintro e w' ⟨rfl, rfl⟩) | (go_at_call 42; (with_reducible refine T2.out.mono ?_); rintro e w' ⟨rfl, rfl⟩) | (go_at_call 42; (with_reducible refine T3.out.mono ?_); rintro e w' ⟨rfl, rfl⟩) | (go_at_call 42; (with_reducible refine T4.out.mono ?_); rintro e w' ⟨rfl, rfl⟩))
      go_ret
      exact ⟨rfl, below_new _ _⟩
  · go_enter Try.func22, Try.ntmps22
    go_wp2_with (first | (go_at_call 40; refine (there_any _ _).mono ?_; rintro e w' ⟨rfl, rfl⟩) | (go_at_call 42; (with_reducible refine T1.out.mono ?_); rintro e w' ⟨rfl, rfl⟩) | (go_at_call 42; (with_reducible refine T2.out.mono ?_); rintro e w' ⟨rfl, rfl⟩) | (go_at_call 42; (with_reducible refine T3.out.mono ?_); rintro e w' ⟨rfl, rfl⟩) | (go_at_call 42; (with_reducible refine T4.out.mono ?_); rintro e w' ⟨rfl, rfl⟩))
    go_ret
    exact ⟨rfl, below_new _ _⟩
set_option maxHeartbeats 1000000 in
theorem check_20 (f a0 a1 a2 a3 l0 l1 l2 : Int) (w : World) (hf0 : 2 ≤ f) (hf : f ≤ 3) (b1 b2 b3 b4 : Bool) (hb1 : [a0, a1, a2, a3].any gr = b1) (hb2 : [l0, l1, l2].any gr = b2) (hb3 : [a3].any so = b3) (hb4 : [l0, l1, l2].any so = b4) :
    Calls Try.prog 22 #[.agg #[.int .i64 f, .int .i64 2, .int .u32 a0, .int .u32 a1, .int .u32 a2, .int .u32 a3, .int .i64 0, .int .u32 l0, .int .u32 l1, .int .u32 l2]] w fun e w' => e = .returned (.int .i64 (if (b1 || b2) = true then 1 else if (b3 || b4) = true then 6 else 0)) ∧ Below w.heap.size w w' := by
  have t1 : Calls Try.prog 42 #[.slice (some ⟨w.heap.size, 2, none⟩) 4 4, .func (.func 41) #[] #[]] (w.alloc (.cells #[.int .i64 f, .int .i64 2, .int .u32 a0, .int .u32 a1, .int .u32 a2, .int .u32 a3, .int .i64 0, .int .u32 l0, .int .u32 l1, .int .u32 l2] 26)) fun e w' => e = .returned (.bool b1) ∧ (w.alloc (.cells #[.int .i64 f, .int .i64 2, .int .u32 a0, .int .u32 a1, .int .u32 a2, .int .u32 a3, .int .i64 0, .int .u32 l0, .int .u32 l1, .int .u32 l2] 26)) = w' :=
    contains_row 41 eg41 gr great_p w.heap.size 2 4 [a0, a1, a2, a3] _ _ 26 (Row.new w _ 26) (by simp) (fun i x hi => by
      rcases i with _ | i
      · cases hi; rfl
      rcases i with _ | i
      · cases hi; rfl
      rcases i with _ | i
      · cases hi; rfl
      rcases i with _ | i
      · cases hi; rfl
      cases hi) b1 hb1
  have t2 : Calls Try.prog 42 #[.slice (some ⟨w.heap.size, 7, none⟩) 3 3, .func (.func 41) #[] #[]] (w.alloc (.cells #[.int .i64 f, .int .i64 2, .int .u32 a0, .int .u32 a1, .int .u32 a2, .int .u32 a3, .int .i64 0, .int .u32 l0, .int .u32 l1, .int .u32 l2] 26)) fun e w' => e = .returned (.bool b2) ∧ (w.alloc (.cells #[.int .i64 f, .int .i64 2, .int .u32 a0, .int .u32 a1, .int .u32 a2, .int .u32 a3, .int .i64 0, .int .u32 l0, .int .u32 l1, .int .u32 l2] 26)) = w' :=
    contains_row 41 eg41 gr great_p w.heap.size 7 3 [l0, l1, l2] _ _ 26 (Row.new w _ 26) (by simp) (fun i x hi => by
      rcases i with _ | i
      · cases hi; rfl
      rcases i with _ | i
      · cases hi; rfl
      rcases i with _ | i
      · cases hi; rfl
      cases hi) b2 hb2
  have t3 : Calls Try.prog 42 #[.slice (some ⟨w.heap.size, 5, none⟩) 1 1, .func (.func 43) #[] #[]] (w.alloc (.cells #[.int .i64 f, .int .i64 2, .int .u32 a0, .int .u32 a1, .int .u32 a2, .int .u32 a3, .int .i64 0, .int .u32 l0, .int .u32 l1, .int .u32 l2] 26)) fun e w' => e = .returned (.bool b3) ∧ (w.alloc (.cells #[.int .i64 f, .int .i64 2, .int .u32 a0, .int .u32 a1, .int .u32 a2, .int .u32 a3, .int .i64 0, .int .u32 l0, .int .u32 l1, .int .u32 l2] 26)) = w' :=
    contains_row 43 eg43 so some_p w.heap.size 5 1 [a3] _ _ 26 (Row.new w _ 26) (by simp) (fun i x hi => by
      rcases i with _ | i
      · cases hi; rfl
      cases hi) b3 hb3
  have t4 : Calls Try.prog 42 #[.slice (some ⟨w.heap.size, 7, none⟩) 3 3, .func (.func 43) #[] #[]] (w.alloc (.cells #[.int .i64 f, .int .i64 2, .int .u32 a0, .int .u32 a1, .int .u32 a2, .int .u32 a3, .int .i64 0, .int .u32 l0, .int .u32 l1, .int .u32 l2] 26)) fun e w' => e = .returned (.bool b4) ∧ (w.alloc (.cells #[.int .i64 f, .int .i64 2, .int .u32 a0, .int .u32 a1, .int .u32 a2, .int .u32 a3, .int .i64 0, .int .u32 l0, .int .u32 l1, .int .u32 l2] 26)) = w' :=
    contains_row 43 eg43 so some_p w.heap.size 7 3 [l0, l1, l2] _ _ 26 (Row.new w _ 26) (by simp) (fun i x hi => by
      rcases i with _ | i
      · cases hi; rfl
      rcases i with _ | i
      · cases hi; rfl
      rcases i with _ | i
      · cases hi; rfl
      cases hi) b4 hb4
  have T1 := Lib.hid t1
  have T2 := Lib.hid t2
  have T3 := Lib.hid t3
  have T4 := Lib.hid t4
  clear t1 t2 t3 t4 hb1 hb2 hb3 hb4
  have i1 : inB f = true := by simp [inB]; omega
  have i2 : inB 0 = true := by decide
  have i3 : inB (2) = true := by decide
  cases b1
  · cases b2
    · cases b3
      · cases b4
        · go_enter Try.func22, Try.ntmps22
          go_wp2_with (first | (go_at_call 40; refine (there_any _ _).mono ?_; rintro e w' ⟨rfl, rfl⟩) | (go_at_call 42; (with_reducible refine T1.out.mono ?_); rintro e w' ⟨rfl, rfl⟩) | (go_at_call 42; (with_reducible refine T2.out.mono ?_); rintro e w' ⟨rfl, rfl⟩) | (go_at_call 42; (with_reducible refine T3.out.mono ?_); rintro e w' ⟨rfl, rfl⟩) | (go_at_call 42; (with_reducible refine T4.out.mono ?_); rintro e w' ⟨rfl, rfl⟩))
          go_ret
          exact ⟨rfl, below_new _ _⟩
        · go_enter Try.func22, Try.ntmps22
          go_wp2_with (first | (go_at_call 40; refine (there_any _ _).mono ?_; rintro e w' ⟨rfl, rfl⟩) | (go_at_call 42; (with_reducible refine T1.out.mono ?_); rintro e w' ⟨rfl, rfl⟩) | (go_at_call 42; (with_reducible refine T2.out.mono ?_); rintro e w' ⟨rfl, rfl⟩) | (go_at_call 42; (with_reducible refine T3.out.mono ?_); rintro e w' ⟨rfl, rfl⟩) | (go_at_call 42; (with_reducible refine T4.out.mono ?_); rintro e w' ⟨rfl, rfl⟩))
          go_ret
          exact ⟨rfl, below_new _ _⟩
      · go_enter Try.func22, Try.ntmps22
        go_wp2_with (first | (go_at_call 40; refine (there_any _ _).mono ?_; rintro e w' ⟨rfl, rfl⟩) | (go_at_call 42; (with_reducible refine T1.out.mono ?_); rintro e w' ⟨rfl, rfl⟩) | (go_at_call 42; (with_reducible refine T2.out.mono ?_); rintro e w' ⟨rfl, rfl⟩) | (go_at_call 42; (with_reducible refine T3.out.mono ?_); rintro e w' ⟨rfl, rfl⟩) | (go_at_call 42; (with_reducible refine T4.out.mono ?_); rintro e w' ⟨rfl, rfl⟩))
        go_ret
        exact ⟨rfl, below_new _ _⟩
    · go_enter Try.func22, Try.ntmps22
      go_wp2_with (first | (go_at_call 40; refine (there_any _ _).mono ?_; rintro e w' ⟨rfl, rfl⟩) | (go_at_call 42; (with_reducible refine T1.out.mono ?_); rintro e w' ⟨rfl, rfl⟩) | (go_at_call 42; (with_reducible refine T2.out.mono ?_); rintro e w' ⟨rfl, rfl⟩) | (go_at_call 42; (with_reducible refine T3.out.mono ?_); rintro e w' ⟨rfl, rfl⟩) | (go_at_call 42; (with_reducible refine T4.out.mono ?_); rintro e w' ⟨rfl, rfl⟩))
      go_ret
      exact ⟨rfl, below_new _ _⟩
  · go_enter Try.func22, Try.ntmps22
    go_wp2_with (first | (go_at_call 40; refine (there_any _ _).mono ?_; rintro e w' ⟨rfl, rfl⟩) | (go_at_call 42; (with_reducible refine T1.out.mono ?_); rintro e w' ⟨rfl, rfl⟩) | (go_at_call 42; (with_reducible refine T2.out.mono ?_); rintro e w' ⟨rfl, rfl⟩) | (go_at_call 42; (with_reducible refine T3.out.mono ?_); rintro e w' ⟨rfl, rfl⟩) | (go_at_call 42; (with_reducible refine T4.out.mono ?_); rintro e w' ⟨rfl, rfl⟩))
    go_ret
    exact ⟨rfl, below_new _ _⟩
set_option maxHeartbeats 1000000 in
theorem check_21 (f a0 a1 a2 a3 l0 l1 l2 : Int) (w : World) (hf0 : 2 ≤ f) (hf : f ≤ 3) (b1 b2 b3 b4 : Bool) (hb1 : [a0, a1, a2, a3].any gr = b1) (hb2 : [l0, l1, l2].any gr = b2) (hb3 : [a3].any so = b3) (hb4 : [l1, l2].any so = b4) :
    Calls Try.prog 22 #[.agg #[.int .i64 f, .int .i64 2, .int .u32 a0, .int .u32 a1, .int .u32 a2, .int .u32 a3, .int .i64 1, .int .u32 l0, .int .u32 l1, .int .u32 l2]] w fun e w' => e = .returned (.int .i64 (if (b1 || b2) = true then 1 else if (b3 || b4) = true then 6 else 0)) ∧ Below w.heap.size w w' := by
  have t1 : Calls Try.prog 42 #[.slice (some ⟨w.heap.size, 2, none⟩) 4 4, .func (.func 41) #[] #[]] (w.alloc (.cells #[.int .i64 f, .int .i64 2, .int .u32 a0, .int .u32 a1, .int .u32 a2, .int .u32 a3, .int .i64 1, .int .u32 l0, .int .u32 l1, .int .u32 l2] 26)) fun e w' => e = .returned (.bool b1) ∧ (w.alloc (.cells #[.int .i64 f, .int .i64 2, .int .u32 a0, .int .u32 a1, .int .u32 a2, .int .u32 a3, .int .i64 1, .int .u32 l0, .int .u32 l1, .int .u32 l2] 26)) = w' :=
    contains_row 41 eg41 gr great_p w.heap.size 2 4 [a0, a1, a2, a3] _ _ 26 (Row.new w _ 26) (by simp) (fun i x hi => by
      rcases i with _ | i
      · cases hi; rfl
      rcases i with _ | i
      · cases hi; rfl
      rcases i with _ | i
      · cases hi; rfl
      rcases i with _ | i
      · cases hi; rfl
      cases hi) b1 hb1
  have t2 : Calls Try.prog 42 #[.slice (some ⟨w.heap.size, 7, none⟩) 3 3, .func (.func 41) #[] #[]] (w.alloc (.cells #[.int .i64 f, .int .i64 2, .int .u32 a0, .int .u32 a1, .int .u32 a2, .int .u32 a3, .int .i64 1, .int .u32 l0, .int .u32 l1, .int .u32 l2] 26)) fun e w' => e = .returned (.bool b2) ∧ (w.alloc (.cells #[.int .i64 f, .int .i64 2, .int .u32 a0, .int .u32 a1, .int .u32 a2, .int .u32 a3, .int .i64 1, .int .u32 l0, .int .u32 l1, .int .u32 l2] 26)) = w' :=
    contains_row 41 eg41 gr great_p w.heap.size 7 3 [l0, l1, l2] _ _ 26 (Row.new w _ 26) (by simp) (fun i x hi => by
      rcases i with _ | i
      · cases hi; rfl
      rcases i with _ | i
      · cases hi; rfl
      rcases i with _ | i
      · cases hi; rfl
      cases hi) b2 hb2
  have t3 : Calls Try.prog 42 #[.slice (some ⟨w.heap.size, 5, none⟩) 1 1, .func (.func 43) #[] #[]] (w.alloc (.cells #[.int .i64 f, .int .i64 2, .int .u32 a0, .int .u32 a1, .int .u32 a2, .int .u32 a3, .int .i64 1, .int .u32 l0, .int .u32 l1, .int .u32 l2] 26)) fun e w' => e = .returned (.bool b3) ∧ (w.alloc (.cells #[.int .i64 f, .int .i64 2, .int .u32 a0, .int .u32 a1, .int .u32 a2, .int .u32 a3, .int .i64 1, .int .u32 l0, .int .u32 l1, .int .u32 l2] 26)) = w' :=
    contains_row 43 eg43 so some_p w.heap.size 5 1 [a3] _ _ 26 (Row.new w _ 26) (by simp) (fun i x hi => by
      rcases i with _ | i
      · cases hi; rfl
      cases hi) b3 hb3
  have t4 : Calls Try.prog 42 #[.slice (some ⟨w.heap.size, 8, none⟩) 2 2, .func (.func 43) #[] #[]] (w.alloc (.cells #[.int .i64 f, .int .i64 2, .int .u32 a0, .int .u32 a1, .int .u32 a2, .int .u32 a3, .int .i64 1, .int .u32 l0, .int .u32 l1, .int .u32 l2] 26)) fun e w' => e = .returned (.bool b4) ∧ (w.alloc (.cells #[.int .i64 f, .int .i64 2, .int .u32 a0, .int .u32 a1, .int .u32 a2, .int .u32 a3, .int .i64 1, .int .u32 l0, .int .u32 l1, .int .u32 l2] 26)) = w' :=
    contains_row 43 eg43 so some_p w.heap.size 8 2 [l1, l2] _ _ 26 (Row.new w _ 26) (by simp) (fun i x hi => by
      rcases i with _ | i
      · cases hi; rfl
      rcases i with _ | i
      · cases hi; rfl
      cases hi) b4 hb4
  have T1 := Lib.hid t1
  have T2 := Lib.hid t2
  have T3 := Lib.hid t3
  have T4 := Lib.hid t4
  clear t1 t2 t3 t4 hb1 hb2 hb3 hb4
  have i1 : inB f = true := by simp [inB]; omega
  have i2 : inB 1 = true := by decide
  have i3 : inB (3) = true := by decide
  cases b1
  · cases b2
    · cases b3
      · cases b4
        · go_enter Try.func22, Try.ntmps22
          go_wp2_with (first | (go_at_call 40; refine (there_any _ _).mono ?_; rintro e w' ⟨rfl, rfl⟩) | (go_at_call 42; (with_reducible refine T1.out.mono ?_); rintro e w' ⟨rfl, rfl⟩) | (go_at_call 42; (with_reducible refine T2.out.mono ?_); rintro e w' ⟨rfl, rfl⟩) | (go_at_call 42; (with_reducible refine T3.out.mono ?_); rintro e w' ⟨rfl, rfl⟩) | (go_at_call 42; (with_reducible refine T4.out.mono ?_); rintro e w' ⟨rfl, rfl⟩))
          go_ret
          exact ⟨rfl, below_new _ _⟩
        · go_enter Try.func22, Try.ntmps22
          go_wp2_with (first | (go_at_call 40; refine (there_any _ _).mono ?_; rintro e w' ⟨rfl, rfl⟩) | (go_at_call 42; (with_reducible refine T1.out.mono ?_); rintro e w' ⟨rfl, rfl⟩) | (go_at_call 42; (with_reducible refine T2.out.mono ?_); rintro e w' ⟨rfl, rfl⟩) | (go_at_call 42; (with_reducible refine T3.out.mono ?_); rintro e w' ⟨rfl, rfl⟩) | (go_at_call 42; (with_reducible refine T4.out.mono ?_); rintro e w' ⟨rfl, rfl⟩))
          go_ret
          exact ⟨rfl, below_new _ _⟩
      · go_enter Try.func22, Try.ntmps22
        go_wp2_with (first | (go_at_call 40; refine (there_any _ _).mono ?_; rintro e w' ⟨rfl, rfl⟩) | (go_at_call 42; (with_reducible refine T1.out.mono ?_); rintro e w' ⟨rfl, rfl⟩) | (go_at_call 42; (with_reducible refine T2.out.mono ?_); rintro e w' ⟨rfl, rfl⟩) | (go_at_call 42; (with_reducible refine T3.out.mono ?_); rintro e w' ⟨rfl, rfl⟩) | (go_at_call 42; (with_reducible refine T4.out.mono ?_); rintro e w' ⟨rfl, rfl⟩))
        go_ret
        exact ⟨rfl, below_new _ _⟩
    · go_enter Try.func22, Try.ntmps22
      go_wp2_with (first | (go_at_call 40; refine (there_any _ _).mono ?_; rintro e w' ⟨rfl, rfl⟩) | (go_at_call 42; (with_reducible refine T1.out.mono ?_); rintro e w' ⟨rfl, rfl⟩) | (go_at_call 42; (with_reducible refine T2.out.mono ?_); rintro e w' ⟨rfl, rfl⟩) | (go_at_call 42; (with_reducible refine T3.out.mono ?_); rintro e w' ⟨rfl, rfl⟩) | (go_at_call 42; (with_reducible refine T4.out.mono ?_); rintro e w' ⟨rfl, rfl⟩))
      go_ret
      exact ⟨rfl, below_new _ _⟩
  · go_enter Try.func22, Try.ntmps22
    go_wp2_with (first | (go_at_call 40; refine (there_any _ _).mono ?_; rintro e w' ⟨rfl, rfl⟩) | (go_at_call 42; (with_reducible refine T1.out.mono ?_); rintro e w' ⟨rfl, rfl⟩) | (go_at_call 42; (with_reducible refine T2.out.mono ?_); rintro e w' ⟨rfl, rfl⟩) | (go_at_call 42; (with_reducible refine T3.out.mono ?_); rintro e w' ⟨rfl, rfl⟩) | (go_at_call 42; (with_reducible refine T4.out.mono ?_); rintro e w' ⟨rfl, rfl⟩))
    go_ret
    exact ⟨rfl, below_new _ _⟩
set_option maxHeartbeats 1000000 in
theorem check_30 (f a0 a1 a2 a3 l0 l1 l2 : Int) (w : World) (hf0 : 3 ≤ f) (hf : f ≤ 3) (b1 b2 b3 b4 : Bool) (hb1 : [a0, a1, a2, a3].any gr = b1) (hb2 : [l0, l1, l2].any gr = b2) (hb3 : [].any so = b3) (hb4 : [l0, l1, l2].any so = b4) :
    Calls Try.prog 22 #[.agg #[.int .i64 f, .int .i64 3, .int .u32 a0, .int .u32 a1, .int .u32 a2, .int .u32 a3, .int .i64 0, .int .u32 l0, .int .u32 l1, .int .u32 l2]] w fun e w' => e = .returned (.int .i64 (if (b1 || b2) = true then 1 else if (b3 || b4) = true then 6 else 0)) ∧ Below w.heap.size w w' := by
  have t1 : Calls Try.prog 42 #[.slice (some ⟨w.heap.size, 2, none⟩) 4 4, .func (.func 41) #[] #[]] (w.alloc (.cells #[.int .i64 f, .int .i64 3, .int .u32 a0, .int .u32 a1, .int .u32 a2, .int .u32 a3, .int .i64 0, .int .u32 l0, .int .u32 l1, .int .u32 l2] 26)) fun e w' => e = .returned (.bool b1) ∧ (w.alloc (.cells #[.int .i64 f, .int .i64 3, .int .u32 a0, .int .u32 a1, .int .u32 a2, .int .u32 a3, .int .i64 0, .int .u32 l0, .int .u32 l1, .int .u32 l2] 26)) = w' :=
    contains_row 41 eg41 gr great_p w.heap.size 2 4 [a0, a1, a2, a3] _ _ 26 (Row.new w _ 26) (by simp) (fun i x hi => by
      rcases i with _ | i
      · cases hi; rfl
      rcases i with _ | i
      · cases hi; rfl
      rcases i with _ | i
      · cases hi; rfl
      rcases i with _ | i
      · cases hi; rfl
      cases hi) b1 hb1
  have t2 : Calls Try.prog 42 #[.slice (some ⟨w.heap.size, 7, none⟩) 3 3, .func (.func 41) #[] #[]] (w.alloc (.cells #[.int .i64 f, .int .i64 3, .int .u32 a0, .int .u32 a1, .int .u32 a2, .int .u32 a3, .int .i64 0, .int .u32 l0, .int .u32 l1, .int .u32 l2] 26)) fun e w' => e = .returned (.bool b2) ∧ (w.alloc (.cells #[.int .i64 f, .int .i64 3, .int .u32 a0, .int .u32 a1, .int .u32 a2, .int .u32 a3, .int .i64 0, .int .u32 l0, .int .u32 l1, .int .u32 l2] 26)) = w' :=
    contains_row 41 eg41 gr great_p w.heap.size 7 3 [l0, l1, l2] _ _ 26 (Row.new w _ 26) (by simp) (fun i x hi => by
      rcases i with _ | i
      · cases hi; rfl
      rcases i with _ | i
      · cases hi; rfl
      rcases i with _ | i
      · cases hi; rfl
      cases hi) b2 hb2
  have t3 : Calls Try.prog 42 #[.slice (some ⟨w.heap.size, 2, none⟩) 0 0, .func (.func 43) #[] #[]] (w.alloc (.cells #[.int .i64 f, .int .i64 3, .int .u32 a0, .int .u32 a1, .int .u32 a2, .int .u32 a3, .int .i64 0, .int .u32 l0, .int .u32 l1, .int .u32 l2] 26)) fun e w' => e = .returned (.bool b3) ∧ (w.alloc (.cells #[.int .i64 f, .int .i64 3, .int .u32 a0, .int .u32 a1, .int .u32 a2, .int .u32 a3, .int .i64 0, .int .u32 l0, .int .u32 l1, .int .u32 l2] 26)) = w' :=
    contains_row 43 eg43 so some_p w.heap.size 2 0 [] _ _ 26 (Row.new w _ 26) (by simp) (fun i x hi => by
      cases hi) b3 hb3
  have t4 : Calls Try.prog 42 #[.slice (some ⟨w.heap.size, 7, none⟩) 3 3, .func (.func 43) #[] #[]] (w.alloc (.cells #[.int .i64 f, .int .i64 3, .int .u32 a0, .int .u32 a1, .int .u32 a2, .int .u32 a3, .int .i64 0, .int .u32 l0, .int .u32 l1, .int .u32 l2] 26)) fun e w' => e = .returned (.bool b4) ∧ (w.alloc (.cells #[.int .i64 f, .int .i64 3, .int .u32 a0, .int .u32 a1, .int .u32 a2, .int .u32 a3, .int .i64 0, .int .u32 l0, .int .u32 l1, .int .u32 l2] 26)) = w' :=
    contains_row 43 eg43 so some_p w.heap.size 7 3 [l0, l1, l2] _ _ 26 (Row.new w _ 26) (by simp) (fun i x hi => by
      rcases i with _ | i
      · cases hi; rfl
      rcases i with _ | i
      · cases hi; rfl
      rcases i with _ | i
      · cases hi; rfl
      cases hi) b4 hb4
  have T1 := Lib.hid t1
  have T2 := Lib.hid t2
  have T3 := Lib.hid t3
  have T4 := Lib.hid t4
  clear t1 t2 t3 t4 hb1 hb2 hb3 hb4
  have i1 : inB f = true := by simp [inB]; omega
  have i2 : inB 0 = true := by decide
  have i3 : inB (3) = true := by decide
  cases b1
  · cases b2
    · cases b3
      · cases b4
        · go_enter Try.func22, Try.ntmps22
          go_wp2_with (first | (go_at_call 40; refine (there_any _ _).mono ?_; rintro e w' ⟨rfl, rfl⟩) | (go_at_call 42; (with_reducible refine T1.out.mono ?_); rintro e w' ⟨rfl, rfl⟩) | (go_at_call 42; (with_reducible refine T2.out.mono ?_); rintro e w' ⟨rfl, rfl⟩) | (go_at_call 42; (with_reducible refine T3.out.mono ?_); rintro e w' ⟨rfl, rfl⟩) | (go_at_call 42; (with_reducible refine T4.out.mono ?_); rintro e w' ⟨rfl, rfl⟩))
          go_ret
          exact ⟨rfl, below_new _ _⟩
        · go_enter Try.func22, Try.ntmps22
          go_wp2_with (first | (go_at_call 40; refine (there_any _ _).mono ?_; rintro e w' ⟨rfl, rfl⟩) | (go_at_call 42; (with_reducible refine T1.out.mono ?_); rintro e w' ⟨rfl, rfl⟩) | (go_at_call 42; (with_reducible refine T2.out.mono ?_); rintro e w' ⟨rfl, rfl⟩) | (go_at_call 42; (with_reducible refine T3.out.mono ?_); rintro e w' ⟨rfl, rfl⟩) | (go_at_call 42; (with_reducible refine T4.out.mono ?_); rintro e w' ⟨rfl, rfl⟩))
          go_ret
          exact ⟨rfl, below_new _ _⟩
      · go_enter Try.func22, Try.ntmps22
        go_wp2_with (first | (go_at_call 40; refine (there_any _ _).mono ?_; rintro e w' ⟨rfl, rfl⟩) | (go_at_call 42; (with_reducible refine T1.out.mono ?_); rintro e w' ⟨rfl, rfl⟩) | (go_at_call 42; (with_reducible refine T2.out.mono ?_); rintro e w' ⟨rfl, rfl⟩) | (go_at_call 42; (with_reducible refine T3.out.mono ?_); rintro e w' ⟨rfl, rfl⟩) | (go_at_call 42; (with_reducible refine T4.out.mono ?_); rintro e w' ⟨rfl, rfl⟩))
        go_ret
        exact ⟨rfl, below_new _ _⟩
    · go_enter Try.func22, Try.ntmps22
      go_wp2_with (first | (go_at_call 40; refine (there_any _ _).mono ?_; rintro e w' ⟨rfl, rfl⟩) | (go_at_call 42; (with_reducible refine T1.out.mono ?_); rintro e w' ⟨rfl, rfl⟩) | (go_at_call 42; (with_reducible refine T2.out.mono ?_); rintro e w' ⟨rfl, rfl⟩) | (go_at_call 42; (with_reducible refine T3.out.mono ?_); rintro e w' ⟨rfl, rfl⟩) | (go_at_call 42; (with_reducible refine T4.out.mono ?_); rintro e w' ⟨rfl, rfl⟩))
      go_ret
      exact ⟨rfl, below_new _ _⟩
  · go_enter Try.func22, Try.ntmps22
    go_wp2_with (first | (go_at_call 40; refine (there_any _ _).mono ?_; rintro e w' ⟨rfl, rfl⟩) | (go_at_call 42; (with_reducible refine T1.out.mono ?_); rintro e w' ⟨rfl, rfl⟩) | (go_at_call 42; (with_reducible refine T2.out.mono ?_); rintro e w' ⟨rfl, rfl⟩) | (go_at_call 42; (with_reducible refine T3.out.mono ?_); rintro e w' ⟨rfl, rfl⟩) | (go_at_call 42; (with_reducible refine T4.out.mono ?_); rintro e w' ⟨rfl, rfl⟩))
    go_ret
    exact ⟨rfl, below_new _ _⟩
end Go.Proofs.Ytfmnbkcjibhloaa
