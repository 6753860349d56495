/- The five ways of a depth: what Stay, Enter, Leave, Next, Later of the program and of the reference give. No condition. -/
import Derived.Test.YtfmnbkcjibhloaaRow
namespace Go.Proofs.Ytfmnbkcjibhloaa
open Go.RowKit

def inB (d : Int) : Bool := decide (0 ≤ d) && decide (d ≤ 3)
theorem inB_yes {d : Int} (h : inB d = true) : 0 ≤ d ∧ d ≤ 3 := by simpa [inB] using h
theorem inB_no {d : Int} (h : inB d = false) : d < 0 ∨ 3 < d := by
  simp [inB] at h; omega
theorem there_any (d : Int) (w : World) :
    Calls Try.prog 40 #[.int .i64 d] w fun e w' => e = .returned (.bool (inB d)) ∧ w = w' := by
  unfold inB
  by_cases h : 0 ≤ d
  · by_cases h' : d ≤ 3
    · go_enter Try.func40, Try.ntmps40
      go_wp2
      go_ret
      simp [h, h']
    · go_enter Try.func40, Try.ntmps40
      go_wp2
      go_ret
      simp
      omega
  · go_enter Try.func40, Try.ntmps40
    go_wp2
    go_ret
    simp
    omega
theorem great_any (n : Int) (w : World) :
    Calls Try.prog 41 #[.int .u32 n] w fun e w' => e = .returned (.bool (decide (1048576 < n))) ∧ w = w' := by
  go_enter Try.func41, Try.ntmps41
  go_wp2
  go_ret
  simp

/-- A way: ten cells. -/
structure Pa where
  f : Int
  k : Int
  a0 : Int
  a1 : Int
  a2 : Int
  a3 : Int
  u : Int
  l0 : Int
  l1 : Int
  l2 : Int
deriving DecidableEq
def pa0 : Pa := ⟨0, 0, 0, 0, 0, 0, 0, 0, 0, 0⟩
def stayR (d : Int) : Pa × Int := if inB d = true then (⟨d, d, 0, 0, 0, 0, 0, 0, 0, 0⟩, 0) else (pa0, 10)
def enterR (d : Int) : Pa × Int := if inB d = true ∧ d ≠ 3 then (⟨d, d, 0, 0, 0, 0, 1, 0, 0, 0⟩, 0) else (pa0, 10)
def leaveR (d : Int) : Pa × Int := if inB d = true ∧ d ≠ 0 then (⟨d, d - 1, 0, 0, 0, 0, 0, 0, 0, 0⟩, 0) else (pa0, 10)
def nextR (d : Int) : Pa × Int := if d = 1 then (⟨1, 1, 0, 1, 0, 0, 0, 0, 0, 0⟩, 0) else if d = 2 then (⟨2, 2, 0, 0, 1, 0, 0, 0, 0, 0⟩, 0) else if d = 3 then (⟨3, 3, 0, 0, 0, 1, 0, 0, 0, 0⟩, 0) else (pa0, 10)
def laterR (d n : Int) : Pa × Int := if inB d = true then (if 1048576 < n then (pa0, 1) else (⟨d, d, n, 0, 0, 0, 0, 0, 0, 0⟩, 0)) else (pa0, 10)

theorem stay_any (d : Int) (w : World) :
    Calls Try.prog 11 #[.int .i64 d] w fun e w' => e = .returned (.tuple #[.agg #[.int .i64 (stayR d).1.f, .int .i64 (stayR d).1.k, .int .u32 (stayR d).1.a0, .int .u32 (stayR d).1.a1, .int .u32 (stayR d).1.a2, .int .u32 (stayR d).1.a3, .int .i64 (stayR d).1.u, .int .u32 (stayR d).1.l0, .int .u32 (stayR d).1.l1, .int .u32 (stayR d).1.l2], .int .i64 (stayR d).2]) ∧ Below w.heap.size w w' := by
  rcases hi : inB d with _ | _
  · go_enter Try.func11, Try.ntmps11
    go_wp2_with (go_at_call 40; refine (there_any _ _).mono ?_; rintro e w' ⟨rfl, rfl⟩)
    refine bodyPost_ret (v := .tuple #[.agg #[.int .i64 0, .int .i64 0, .int .u32 0, .int .u32 0, .int .u32 0, .int .u32 0, .int .i64 0, .int .u32 0, .int .u32 0, .int .u32 0], .int .i64 10]) (by simp [results, Try.results11, go_sem]) rfl ⟨by simp [stayR, hi, pa0], ?_⟩
    repeat (first | exact Below.refl _ _ | refine Below.alloc ?_ (by simp) _)
  · go_enter Try.func11, Try.ntmps11
    go_wp2_with (go_at_call 40; refine (there_any _ _).mono ?_; rintro e w' ⟨rfl, rfl⟩)
    refine bodyPost_ret (v := .tuple #[.agg #[.int .i64 d, .int .i64 d, .int .u32 0, .int .u32 0, .int .u32 0, .int .u32 0, .int .i64 0, .int .u32 0, .int .u32 0, .int .u32 0], .int .i64 0]) (by simp [results, Try.results11, go_sem]) rfl ⟨by simp [stayR, hi], ?_⟩
    repeat (first | exact Below.refl _ _ | refine Below.alloc ?_ (by simp) _)
theorem rstay_any (d : Int) (w : World) :
    Calls Try.prog 12 #[.int .i64 d] w fun e w' => e = .returned (.tuple #[.agg #[.int .i64 (stayR d).1.f, .int .i64 (stayR d).1.k, .int .u32 (stayR d).1.a0, .int .u32 (stayR d).1.a1, .int .u32 (stayR d).1.a2, .int .u32 (stayR d).1.a3, .int .i64 (stayR d).1.u, .int .u32 (stayR d).1.l0, .int .u32 (stayR d).1.l1, .int .u32 (stayR d).1.l2], .int .i64 (stayR d).2]) ∧ Below w.heap.size w w' := by
  rcases hi : inB d with _ | _
  · rcases inB_no hi with h | h
    · go_enter Try.func12, Try.ntmps12
      go_wp2
      refine bodyPost_ret (v := .tuple #[.agg #[.int .i64 0, .int .i64 0, .int .u32 0, .int .u32 0, .int .u32 0, .int .u32 0, .int .i64 0, .int .u32 0, .int .u32 0, .int .u32 0], .int .i64 10]) (by simp [results, Try.results12, go_sem]) rfl ⟨by simp [stayR, hi, pa0], ?_⟩
      repeat (first | exact Below.refl _ _ | refine Below.alloc ?_ (by simp) _)
    · have h1 : 0 ≤ d := by omega
      go_enter Try.func12, Try.ntmps12
      go_wp2
      refine bodyPost_ret (v := .tuple #[.agg #[.int .i64 0, .int .i64 0, .int .u32 0, .int .u32 0, .int .u32 0, .int .u32 0, .int .i64 0, .int .u32 0, .int .u32 0, .int .u32 0], .int .i64 10]) (by simp [results, Try.results12, go_sem]) rfl ⟨by simp [stayR, hi, pa0], ?_⟩
      repeat (first | exact Below.refl _ _ | refine Below.alloc ?_ (by simp) _)
  · obtain ⟨h1, h2⟩ := inB_yes hi
    go_enter Try.func12, Try.ntmps12
    go_wp2
    refine bodyPost_ret (v := .tuple #[.agg #[.int .i64 d, .int .i64 d, .int .u32 0, .int .u32 0, .int .u32 0, .int .u32 0, .int .i64 0, .int .u32 0, .int .u32 0, .int .u32 0], .int .i64 0]) (by simp [results, Try.results12, go_sem]) rfl ⟨by simp [stayR, hi], ?_⟩
    repeat (first | exact Below.refl _ _ | refine Below.alloc ?_ (by simp) _)
theorem enter_any (d : Int) (w : World) :
    Calls Try.prog 14 #[.int .i64 d] w fun e w' => e = .returned (.tuple #[.agg #[.int .i64 (enterR d).1.f, .int .i64 (enterR d).1.k, .int .u32 (enterR d).1.a0, .int .u32 (enterR d).1.a1, .int .u32 (enterR d).1.a2, .int .u32 (enterR d).1.a3, .int .i64 (enterR d).1.u, .int .u32 (enterR d).1.l0, .int .u32 (enterR d).1.l1, .int .u32 (enterR d).1.l2], .int .i64 (enterR d).2]) ∧ Below w.heap.size w w' := by
  rcases hi : inB d with _ | _
  · go_enter Try.func14, Try.ntmps14
    go_wp2_with (go_at_call 40; refine (there_any _ _).mono ?_; rintro e w' ⟨rfl, rfl⟩)
    refine bodyPost_ret (v := .tuple #[.agg #[.int .i64 0, .int .i64 0, .int .u32 0, .int .u32 0, .int .u32 0, .int .u32 0, .int .i64 0, .int .u32 0, .int .u32 0, .int .u32 0], .int .i64 10]) (by simp [results, Try.results14, go_sem]) rfl ⟨by simp [enterR, hi, pa0], ?_⟩
    repeat (first | exact Below.refl _ _ | refine Below.alloc ?_ (by simp) _)
  · obtain ⟨h1, h2⟩ := inB_yes hi
    by_cases h3 : d = 3
    · subst h3
      go_enter Try.func14, Try.ntmps14
      go_wp2_with (go_at_call 40; refine (there_any _ _).mono ?_; rintro e w' ⟨rfl, rfl⟩)
      refine bodyPost_ret (v := .tuple #[.agg #[.int .i64 0, .int .i64 0, .int .u32 0, .int .u32 0, .int .u32 0, .int .u32 0, .int .i64 0, .int .u32 0, .int .u32 0, .int .u32 0], .int .i64 10]) (by simp [results, Try.results14, go_sem]) rfl ⟨by simp [enterR, pa0], ?_⟩
      repeat (first | exact Below.refl _ _ | refine Below.alloc ?_ (by simp) _)
    · have hj : inB (d + 1) = true := by simp [inB]; omega
      go_enter Try.func14, Try.ntmps14
      go_wp2_with (go_at_call 40; refine (there_any _ _).mono ?_; rintro e w' ⟨rfl, rfl⟩)
      refine bodyPost_ret (v := .tuple #[.agg #[.int .i64 d, .int .i64 d, .int .u32 0, .int .u32 0, .int .u32 0, .int .u32 0, .int .i64 1, .int .u32 0, .int .u32 0, .int .u32 0], .int .i64 0]) (by simp [results, Try.results14, go_sem]) rfl ⟨by simp [enterR, hi, h3], ?_⟩
      repeat (first | exact Below.refl _ _ | refine Below.alloc ?_ (by simp) _)
end Go.Proofs.Ytfmnbkcjibhloaa
