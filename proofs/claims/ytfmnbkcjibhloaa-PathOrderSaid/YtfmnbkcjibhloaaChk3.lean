/- The program's Check, To and Rises of a way. No condition. -/
import Derived.Test.YtfmnbkcjibhloaaChk2
import Derived.Test.YtfmnbkcjibhloaaMakes
namespace Go.Proofs.Ytfmnbkcjibhloaa
open Go.RowKit
set_option linter.unusedVariables false
set_option linter.unusedSimpArgs false
theorem check_any (p : Pa) (w : World) : Calls Try.prog 22 #[.agg #[.int .i64 p.f, .int .i64 p.k, .int .u32 p.a0, .int .u32 p.a1, .int .u32 p.a2, .int .u32 p.a3, .int .i64 p.u, .int .u32 p.l0, .int .u32 p.l1, .int .u32 p.l2]] w fun e w' => e = .returned (.int .i64 (chk p)) ∧ Below w.heap.size w w' := by
  rcases hd : dpt p with _ | _
  · obtain ⟨f, k, a0, a1, a2, a3, u, l0, l1, l2⟩ := p
    obtain ⟨h1, h2, h3, h4, h5, h6⟩ := dpt_no hd
    simp only at h1 h2 h3 h4 h5 h6
    have hc : chk ⟨f, k, a0, a1, a2, a3, u, l0, l1, l2⟩ = (if ([a0, a1, a2, a3].any gr || [l0, l1, l2].any gr) = true then 1 else if (([a0, a1, a2, a3].drop (1 + k).toNat).any so || ([l0, l1, l2].drop u.toNat).any so) = true then 6 else 0) := by
      unfold chk; rw [hd]; rfl
    rw [hc]
    clear hc hd
    have hk : k = 0 ∨ k = 1 ∨ k = 2 ∨ k = 3 := by omega
    have hu : u = 0 ∨ u = 1 ∨ u = 2 ∨ u = 3 := by omega
    rcases hk with rfl | rfl | rfl | rfl
    · rcases hu with rfl | rfl | rfl | rfl
      · exact check_00 f a0 a1 a2 a3 l0 l1 l2 w (by omega) (by omega) _ _ _ _ rfl rfl rfl rfl
      · exact check_01 f a0 a1 a2 a3 l0 l1 l2 w (by omega) (by omega) _ _ _ _ rfl rfl rfl rfl
      · exact check_02 f a0 a1 a2 a3 l0 l1 l2 w (by omega) (by omega) _ _ _ _ rfl rfl rfl rfl
      · exact check_03 f a0 a1 a2 a3 l0 l1 l2 w (by omega) (by omega) _ _ _ _ rfl rfl rfl rfl
    · rcases hu with rfl | rfl | rfl | rfl
      · exact check_10 f a0 a1 a2 a3 l0 l1 l2 w (by omega) (by omega) _ _ _ _ rfl rfl rfl rfl
      · exact check_11 f a0 a1 a2 a3 l0 l1 l2 w (by omega) (by omega) _ _ _ _ rfl rfl rfl rfl
      · exact check_12 f a0 a1 a2 a3 l0 l1 l2 w (by omega) (by omega) _ _ _ _ rfl rfl rfl rfl
      · omega
    · rcases hu with rfl | rfl | rfl | rfl
      · exact check_20 f a0 a1 a2 a3 l0 l1 l2 w (by omega) (by omega) _ _ _ _ rfl rfl rfl rfl
      · exact check_21 f a0 a1 a2 a3 l0 l1 l2 w (by omega) (by omega) _ _ _ _ rfl rfl rfl rfl
      · omega
      · omega
    · rcases hu with rfl | rfl | rfl | rfl
      · exact check_30 f a0 a1 a2 a3 l0 l1 l2 w (by omega) (by omega) _ _ _ _ rfl rfl rfl rfl
      · omega
      · omega
      · omega
  · have hc : chk p = 10 := by simp [chk, hd]
    rw [hc]
    exact check_depth p w hd
def toR (p : Pa) : Int := if chk p = 0 then p.k + p.u else 0
theorem chk_0 {p : Pa} (h : chk p = 0) : dpt p = false := by
  unfold chk at h
  rcases hd : dpt p with _ | _
  · rfl
  · rw [hd] at h; simp at h
theorem Row.ten' {w : World} {b T : Nat} {p : Pa} (h : Row w b #[.int .i64 p.f, .int .i64 p.k, .int .u32 p.a0, .int .u32 p.a1, .int .u32 p.a2, .int .u32 p.a3, .int .i64 p.u, .int .u32 p.l0, .int .u32 p.l1, .int .u32 p.l2] T) : At b p.f p.k p.a0 p.a1 p.a2 p.a3 p.u p.l0 p.l1 p.l2 w := h.ten
theorem to_any (p : Pa) (w : World) : Calls Try.prog 25 #[.agg #[.int .i64 p.f, .int .i64 p.k, .int .u32 p.a0, .int .u32 p.a1, .int .u32 p.a2, .int .u32 p.a3, .int .i64 p.u, .int .u32 p.l0, .int .u32 p.l1, .int .u32 p.l2]] w fun e w' => e = .returned (.int .i64 (toR p)) ∧ Below w.heap.size w w' := by
  by_cases hc : chk p = 0
  · have hx : toR p = p.k + p.u := by simp [toR, hc]
    rw [hx]
    obtain ⟨h1, h2, h3, h4, h5, h6⟩ := dpt_no (chk_0 hc)
    have HC := Lib.hid hc
    clear hc hx
    go_enter Try.func25, Try.ntmps25
    go_wp2_with (go_at_call 22; refine (check_any p _).mono ?_; rw [HC.out]; rintro e w1 ⟨rfl, hb⟩; obtain ⟨c0, c1, c2, c3, c4, c5, c6, c7, c8, c9, cf⟩ := ((Row.new w _ 26).below hb).ten')
    go_ret
    exact ⟨rfl, (below_new w _).trans (hb.mono (by simp))⟩
  · have hx : toR p = 0 := by simp [toR, hc]
    rw [hx]
    have hne : (chk p == 0) = false := by simp [hc]
    obtain ⟨c, hcc⟩ : ∃ c, chk p = c := ⟨_, rfl⟩
    rw [hcc] at hne
    have HC := Lib.hid hcc
    clear hc hx hcc
    go_enter Try.func25, Try.ntmps25
    go_wp2_with (go_at_call 22; refine (check_any p _).mono ?_; rw [HC.out]; rintro e w1 ⟨rfl, hb⟩)
    go_ret
    exact ⟨rfl, (below_new w _).trans (hb.mono (by simp))⟩
theorem eqA4top (a0 a1 a2 a3 b0 b1 b2 b3 : Int) (w : World) : (Op.equalIn 10000 23 (.agg #[.int .u32 a0, .int .u32 a1, .int .u32 a2, .int .u32 a3]) (.agg #[.int .u32 b0, .int .u32 b1, .int .u32 b2, .int .u32 b3])).run Try.prog w = .ok (a0 == b0 && (a1 == b1 && (a2 == b2 && a3 == b3))) w := by
  have u3 := Try.underlying22
  have g3 := Try.isAgg22
  have z3 := Try.sizeOf22
  rw [show (10000 : Nat) = 9999 + 1 from rfl, Op.equalIn]
  simp only [Sem.run_bind, run_underlying Try.underlying23, Result.andThen_ok]
  simp only [Std.Legacy.Range.forIn_eq_forIn_range', Std.Legacy.Range.size, Nat.sub_zero, Nat.add_sub_cancel, Nat.div_one, List.range'_succ, List.range'_zero, List.forIn_cons, List.forIn_nil]
  go_simp
  by_cases h1 : a0 = b0 <;> by_cases h2 : a1 = b1 <;> by_cases h3 : a2 = b2 <;> by_cases h4 : a3 = b3 <;> simp [h1, h2, h3, h4]
attribute [local go_sem] eqA4 eqA3 eqA4top
def risesR (p : Pa) : Bool := decide (chk p = 0) && (decide (p.k = p.f) && (decide (p.u = 0) && (!(p.a0 == 0) || (!(p.a1 == 0) || (!(p.a2 == 0) || !(p.a3 == 0))))))
theorem rises_all (f k a0 a1 a2 a3 u l0 l1 l2 : Int) (w : World) : Calls Try.prog 27 #[.agg #[.int .i64 f, .int .i64 k, .int .u32 a0, .int .u32 a1, .int .u32 a2, .int .u32 a3, .int .i64 u, .int .u32 l0, .int .u32 l1, .int .u32 l2]] w fun e w' => e = .returned (.bool (risesR ⟨f, k, a0, a1, a2, a3, u, l0, l1, l2⟩)) ∧ Below w.heap.size w w' := by
  by_cases hc : chk ⟨f, k, a0, a1, a2, a3, u, l0, l1, l2⟩ = 0
  · by_cases h1 : k = f
    · subst h1
      by_cases h2 : u = 0
      · subst h2
        have hx : risesR ⟨k, k, a0, a1, a2, a3, 0, l0, l1, l2⟩ = (!(a0 == 0) || (!(a1 == 0) || (!(a2 == 0) || !(a3 == 0)))) := by simp [risesR, hc]
        rw [hx]
        have HC := Lib.hid hc
        clear hc hx
        go_enter Try.func27, Try.ntmps27
        go_wp2_with (go_at_call 22; refine (check_any ⟨k, k, a0, a1, a2, a3, 0, l0, l1, l2⟩ _).mono ?_; rw [HC.out]; rintro e w1 ⟨rfl, hb⟩; obtain ⟨c0, c1, c2, c3, c4, c5, c6, c7, c8, c9, cf⟩ := ((Row.new w _ 26).below hb).ten)
        go_ret
        exact ⟨rfl, (below_new w _).trans (hb.mono (by simp))⟩
      · have hx : risesR ⟨k, k, a0, a1, a2, a3, u, l0, l1, l2⟩ = false := by simp [risesR, h2]
        rw [hx]
        have h3 : (u == 0) = false := by simp [h2]
        have h3' : (u != 0) = true := by simp [h2]
        have HC := Lib.hid hc
        clear hc hx h2
        go_enter Try.func27, Try.ntmps27
        go_wp2_with (go_at_call 22; refine (check_any ⟨k, k, a0, a1, a2, a3, u, l0, l1, l2⟩ _).mono ?_; rw [HC.out]; rintro e w1 ⟨rfl, hb⟩; obtain ⟨c0, c1, c2, c3, c4, c5, c6, c7, c8, c9, cf⟩ := ((Row.new w _ 26).below hb).ten)
        go_ret
        exact ⟨rfl, (below_new w _).trans (hb.mono (by simp))⟩
    · have hx : risesR ⟨f, k, a0, a1, a2, a3, u, l0, l1, l2⟩ = false := by simp [risesR, h1]
      rw [hx]
      have h3 : (k == f) = false := by simp [h1]
      have h3' : (k != f) = true := by simp [h1]
      have HC := Lib.hid hc
      clear hc hx h1
      go_enter Try.func27, Try.ntmps27
      go_wp2_with (go_at_call 22; refine (check_any ⟨f, k, a0, a1, a2, a3, u, l0, l1, l2⟩ _).mono ?_; rw [HC.out]; rintro e w1 ⟨rfl, hb⟩; obtain ⟨c0, c1, c2, c3, c4, c5, c6, c7, c8, c9, cf⟩ := ((Row.new w _ 26).below hb).ten)
      go_ret
      exact ⟨rfl, (below_new w _).trans (hb.mono (by simp))⟩
  · have hx : risesR ⟨f, k, a0, a1, a2, a3, u, l0, l1, l2⟩ = false := by simp [risesR, hc]
    rw [hx]
    have hne : (chk ⟨f, k, a0, a1, a2, a3, u, l0, l1, l2⟩ == 0) = false := by simp [hc]
    obtain ⟨c, hcc⟩ : ∃ c, chk ⟨f, k, a0, a1, a2, a3, u, l0, l1, l2⟩ = c := ⟨_, rfl⟩
    rw [hcc] at hne
    have hne2 : (c != 0) = true := by simpa using hne
    have HC := Lib.hid hcc
    clear hc hx hcc
    go_enter Try.func27, Try.ntmps27
    go_wp2_with (go_at_call 22; refine (check_any ⟨f, k, a0, a1, a2, a3, u, l0, l1, l2⟩ _).mono ?_; rw [HC.out]; rintro e w1 ⟨rfl, hb⟩; obtain ⟨c0, c1, c2, c3, c4, c5, c6, c7, c8, c9, cf⟩ := ((Row.new w _ 26).below hb).ten)
    go_ret
    exact ⟨rfl, (below_new w _).trans (hb.mono (by simp))⟩
theorem rises_any (p : Pa) (w : World) : Calls Try.prog 27 #[.agg #[.int .i64 p.f, .int .i64 p.k, .int .u32 p.a0, .int .u32 p.a1, .int .u32 p.a2, .int .u32 p.a3, .int .i64 p.u, .int .u32 p.l0, .int .u32 p.l1, .int .u32 p.l2]] w fun e w' => e = .returned (.bool (risesR p)) ∧ Below w.heap.size w w' := rises_all _ _ _ _ _ _ _ _ _ _ w
end Go.Proofs.Ytfmnbkcjibhloaa
