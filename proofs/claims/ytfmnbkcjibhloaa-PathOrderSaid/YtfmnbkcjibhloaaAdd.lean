/- Counts and their sums. No condition. -/
import Derived.Test.YtfmnbkcjibhloaaOp
import Derived.Test.YtfmnbkcjibhloaaQui
namespace Go.Proofs.Ytfmnbkcjibhloaa
open Go.RowKit
set_option linter.unusedVariables false
set_option linter.unusedSimpArgs false
theorem count_any (n : Int) (w : World) : Calls Try.prog 59 #[.int .u32 n] w fun e w' => e = .returned (.bool (decide (n ≤ 1048576))) ∧ w = w' := by
  go_enter Try.func59, Try.ntmps59
  go_wp2
  go_ret
  exact ⟨rfl, rfl⟩
theorem sthere_any (n : Int) (w : World) : Calls Try.prog 52 #[.int .i64 n] w fun e w' => e = .returned (.bool (decide (0 ≤ n ∧ n ≤ 3))) ∧ w = w' := by
  by_cases h1 : 0 ≤ n
  · have hd : decide (n ≥ 0) = true := by simpa using h1
    by_cases h2 : n ≤ 3
    · rw [show decide (0 ≤ n ∧ n ≤ 3) = true by simp [h1, h2]]
      have hd2 : decide (n ≤ 3) = true := by simpa using h2
      go_enter Try.func52, Try.ntmps52
      go_wp2
      go_ret
      exact ⟨rfl, rfl⟩
    · rw [show decide (0 ≤ n ∧ n ≤ 3) = false by simp [h2]]
      have hd2 : decide (n ≤ 3) = false := by simpa using h2
      go_enter Try.func52, Try.ntmps52
      go_wp2
      go_ret
      exact ⟨rfl, rfl⟩
  · rw [show decide (0 ≤ n ∧ n ≤ 3) = false by simp [h1]]
    have hd : decide (n ≥ 0) = false := by simp; omega
    have hd1 : decide (0 ≤ n) = false := by simp; omega
    go_enter Try.func52, Try.ntmps52
    go_wp2
    go_ret
    exact ⟨rfl, rfl⟩
/-- What a sum of counts is, and what is wrong with it. -/
def addN (a b : Int) : Int := if a ≤ 1048576 ∧ b ≤ 1048576 ∧ a + b ≤ 1048576 then a + b else 0
def addE (a b : Int) : Int := if a ≤ 1048576 ∧ b ≤ 1048576 then (if a + b ≤ 1048576 then 0 else 9) else 1
theorem add_any (a b : Int) (w : World) (ha : U32 a) (hb : U32 b) : Calls Try.prog 57 #[.int .u32 a, .int .u32 b] w fun e w' => e = .returned (.tuple #[.int .u32 (addN a b), .int .i64 (addE a b)]) ∧ w = w' := by
  unfold U32 at ha hb
  by_cases h1 : a ≤ 1048576
  · have d1 : decide (a ≤ 1048576) = true := by simp [h1]
    by_cases h2 : b ≤ 1048576
    · have d2 : decide (b ≤ 1048576) = true := by simp [h2]
      have hw : IntKind.u32.wrap (a + b) = a + b := by simp [IntKind.wrap, IntKind.signed, IntKind.bits]; omega
      by_cases h3 : a + b ≤ 1048576
      · have d3 : decide (a + b ≤ 1048576) = true := by simp [h3]
        rw [show addN a b = a + b by simp [addN, h1, h2, h3], show addE a b = 0 by simp [addE, h1, h2, h3]]
        go_enter Try.func57, Try.ntmps57
        go_wp2_with (first
          | (go_at_call_of 59 (Value.int IntKind.u32 a); (with_reducible refine (count_any a _).mono ?_); rintro e w' ⟨rfl, rfl⟩)
          | (go_at_call_of 59 (Value.int IntKind.u32 b); (with_reducible refine (count_any b _).mono ?_); rintro e w' ⟨rfl, rfl⟩)
          | (go_at_call 59; (with_reducible refine (count_any (a + b) _).mono ?_); rintro e w' ⟨rfl, rfl⟩))
        go_ret2
        exact ⟨rfl, rfl⟩
      · have d3 : decide (a + b ≤ 1048576) = false := by simp; omega
        rw [show addN a b = 0 by simp [addN, h3], show addE a b = 9 by simp [addE, h1, h2, h3]]
        go_enter Try.func57, Try.ntmps57
        go_wp2_with (first
          | (go_at_call_of 59 (Value.int IntKind.u32 a); (with_reducible refine (count_any a _).mono ?_); rintro e w' ⟨rfl, rfl⟩)
          | (go_at_call_of 59 (Value.int IntKind.u32 b); (with_reducible refine (count_any b _).mono ?_); rintro e w' ⟨rfl, rfl⟩)
          | (go_at_call 59; (with_reducible refine (count_any (a + b) _).mono ?_); rintro e w' ⟨rfl, rfl⟩))
        go_ret2
        exact ⟨rfl, rfl⟩
    · have d2 : decide (b ≤ 1048576) = false := by simp; omega
      rw [show addN a b = 0 by simp [addN, h2], show addE a b = 1 by simp [addE, h2]]
      go_enter Try.func57, Try.ntmps57
      go_wp2_with (first
        | (go_at_call_of 59 (Value.int IntKind.u32 a); (with_reducible refine (count_any a _).mono ?_); rintro e w' ⟨rfl, rfl⟩)
        | (go_at_call_of 59 (Value.int IntKind.u32 b); (with_reducible refine (count_any b _).mono ?_); rintro e w' ⟨rfl, rfl⟩)
        | (go_at_call 59; (with_reducible refine (count_any (a + b) _).mono ?_); rintro e w' ⟨rfl, rfl⟩))
      go_ret2
      exact ⟨rfl, rfl⟩
  · have d1 : decide (a ≤ 1048576) = false := by simp; omega
    rw [show addN a b = 0 by simp [addN, h1], show addE a b = 1 by simp [addE, h1]]
    go_enter Try.func57, Try.ntmps57
    go_wp2_with (first
      | (go_at_call_of 59 (Value.int IntKind.u32 a); (with_reducible refine (count_any a _).mono ?_); rintro e w' ⟨rfl, rfl⟩)
      | (go_at_call_of 59 (Value.int IntKind.u32 b); (with_reducible refine (count_any b _).mono ?_); rintro e w' ⟨rfl, rfl⟩)
      | (go_at_call 59; (with_reducible refine (count_any (a + b) _).mono ?_); rintro e w' ⟨rfl, rfl⟩))
    go_ret2
    exact ⟨rfl, rfl⟩
end Go.Proofs.Ytfmnbkcjibhloaa
