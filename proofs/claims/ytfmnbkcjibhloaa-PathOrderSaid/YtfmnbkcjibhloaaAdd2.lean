/- sums.add: a sum of two counts, and whether one of the sums is none. Condition: both are counts. -/
import Derived.Test.YtfmnbkcjibhloaaRap
namespace Go.Proofs.Ytfmnbkcjibhloaa
open Go.RowKit
set_option linter.unusedVariables false
set_option linter.unusedSimpArgs false
/-- A sum, or nought. -/
def sumN (a b : Int) : Int := if a + b ≤ 1048576 then a + b else 0
def bigN (a b : Int) : Bool := decide (1048576 < a + b)
theorem sumN_ok {a b : Int} (h : bigN a b = false) : sumN a b = a + b := by
  unfold bigN at h; rw [decide_eq_false_iff_not] at h; unfold sumN; rw [if_pos (by omega)]
theorem addc_ok (a b : Int) (w : World) (a0 : 0 ≤ a) (a1 : a ≤ 1048576) (b0 : 0 ≤ b) (b1 : b ≤ 1048576) (h : bigN a b = false) : Calls Try.prog 57 #[.int .u32 a, .int .u32 b] w fun e w' => e = .returned (.tuple #[.int .u32 (sumN a b), .int .i64 0]) ∧ w = w' := by
  have e1 : addN a b = sumN a b := by unfold addN sumN; simp [a1, b1]
  have e2 : addE a b = 0 := by unfold bigN at h; rw [decide_eq_false_iff_not] at h; unfold addE; rw [if_pos ⟨a1, b1⟩, if_pos (by omega)]
  have := add_any a b w ⟨a0, by omega⟩ ⟨b0, by omega⟩
  rw [e1, e2] at this
  exact this
theorem addc_over (a b : Int) (w : World) (a0 : 0 ≤ a) (a1 : a ≤ 1048576) (b0 : 0 ≤ b) (b1 : b ≤ 1048576) (h : bigN a b = true) : Calls Try.prog 57 #[.int .u32 a, .int .u32 b] w fun e w' => e = .returned (.tuple #[.int .u32 (sumN a b), .int .i64 9]) ∧ w = w' := by
  have e1 : addN a b = sumN a b := by unfold addN sumN; simp [a1, b1]
  have e2 : addE a b = 9 := by unfold bigN at h; rw [decide_eq_true_iff] at h; unfold addE; rw [if_pos ⟨a1, b1⟩, if_neg (by omega)]
  have := add_any a b w ⟨a0, by omega⟩ ⟨b0, by omega⟩
  rw [e1, e2] at this
  exact this
theorem sum_any (a b : Int) (S : Nat) (o : Bool) (w : World) (a0 : 0 ≤ a) (a1 : a ≤ 1048576) (b0 : 0 ≤ b) (b1 : b ≤ 1048576) (hc : w.cell? ⟨S, 0, none⟩ = some (.bool o)) (hf : w.frozen? ⟨S, 0, none⟩ = false) :
    Calls Try.prog 51 #[.pointer (some ⟨S, 0, none⟩), .int .u32 a, .int .u32 b] w fun e w' => e = .returned (.int .u32 (sumN a b)) ∧ w' = w.setCell ⟨S, 0, none⟩ (.bool (o || bigN a b)) := by
  obtain ⟨n, hn⟩ : ∃ n, sumN a b = n := ⟨_, rfl⟩
  obtain ⟨g, hg⟩ : ∃ g, bigN a b = g := ⟨_, rfl⟩
  rw [hn, hg]
  have HN := Lib.hid hn
  have HG := Lib.hid hg
  clear hn hg
  rcases o with _ | _
  · rcases g with _ | _
    · go_enter Try.func51, Try.ntmps51
      go_wp2_with (go_at_call 57; (with_reducible refine (addc_ok a b _ a0 a1 b0 b1 HG.out).mono ?_); rw [HN.out]; rintro e w' ⟨rfl, rfl⟩)
      go_ret
      exact ⟨rfl, rfl⟩
    · go_enter Try.func51, Try.ntmps51
      go_wp2_with (go_at_call 57; (with_reducible refine (addc_over a b _ a0 a1 b0 b1 HG.out).mono ?_); rw [HN.out]; rintro e w' ⟨rfl, rfl⟩)
      go_ret
      exact ⟨rfl, rfl⟩
  · rcases g with _ | _
    · go_enter Try.func51, Try.ntmps51
      go_wp2_with (go_at_call 57; (with_reducible refine (addc_ok a b _ a0 a1 b0 b1 HG.out).mono ?_); rw [HN.out]; rintro e w' ⟨rfl, rfl⟩)
      go_ret
      exact ⟨rfl, rfl⟩
    · go_enter Try.func51, Try.ntmps51
      go_wp2_with (go_at_call 57; (with_reducible refine (addc_over a b _ a0 a1 b0 b1 HG.out).mono ?_); rw [HN.out]; rintro e w' ⟨rfl, rfl⟩)
      go_ret
      exact ⟨rfl, rfl⟩
end Go.Proofs.Ytfmnbkcjibhloaa
