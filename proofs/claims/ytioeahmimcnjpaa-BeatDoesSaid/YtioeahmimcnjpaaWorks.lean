/- watershedlaw23.works returns true; no condition. -/
import Derived.Test.YtioeahmimcnjpaaDead
namespace Go.Proofs.Ytioeahmimcnjpaa
open Go.RowKit
set_option linter.unusedVariables false
set_option linter.unusedSimpArgs false

theorem tick_at {w : World} {P S : Nat} {xs : List Int} {me every limit left : Int} (h : Det w P S xs me every limit left) (ys : List Int) (b : Bool) (lf : Int)
    (hx : ∀ i (hi : i < xs.length), 0 ≤ xs[i] ∧ xs[i] ≤ 1000000) (hl0 : -1000000 ≤ left) (hl1 : left ≤ 1000000) (e1 : tickL me limit xs = ys) (e2 : tickB left = b) (e3 : tickLeft every left = lf) :
    Calls Try.prog 8 #[.pointer (some ⟨P, 0, none⟩)] w fun e w' => e = .returned (.bool b) ∧ Det w' P S ys me every limit lf ∧ Kept [P, S] w w' := by
  subst e1 e2 e3
  exact tick_any h hx hl0 hl1
theorem alive_at {w : World} {P S : Nat} {xs : List Int} {me every limit left : Int} (h : Det w P S xs me every limit left) (k : Int) (b : Bool) (hb : aliveB xs limit k = b) :
    Calls Try.prog 18 #[.pointer (some ⟨P, 0, none⟩), .int .i64 k] w fun e w' => e = .returned (.bool b) ∧ ∃ m, w' = w.drewN m := hb ▸ alive_any h k
theorem heard_at {w : World} {P S : Nat} {xs : List Int} {me every limit left : Int} (h : Det w P S xs me every limit left) (k : Int) (ys : List Int) (er : Int) (e1 : heardR xs k = ys) (e2 : heardE xs k = er) :
    Calls Try.prog 12 #[.pointer (some ⟨P, 0, none⟩), .int .i64 k] w fun e w' => e = .returned (.int .i64 er) ∧ Det w' P S ys me every limit left ∧ Kept [P, S] w w' := by
  subst e1 e2
  exact heard_any h k
theorem dead_at {w : World} {P S : Nat} {xs : List Int} {me every limit left : Int} (h : Det w P S xs me every limit left) (z : Int) (hz : deadL xs limit = [z]) :
    Calls Try.prog 9 #[.pointer (some ⟨P, 0, none⟩)] w fun e w' => ∃ g cap, e = .returned (.slice (some ⟨g, 0, none⟩) 1 cap) ∧ w'.cell? ⟨g, 0, none⟩ = some (.int .i64 z) ∧ w.heap.size ≤ g ∧ g < w'.heap.size ∧ Below w.heap.size w w' := by
  refine (dead_any h).mono ?_
  rintro e w' ⟨v, rfl, hr, hbase, hb⟩
  rw [hz] at hr
  rcases hr with ⟨_, h0⟩ | ⟨g, cap, cur, rfl, hrow, hh⟩
  · cases h0
  · exact ⟨g, cap, rfl, hrow.hold hh rfl, hbase g rfl, hrow.lt, hb⟩
theorem small2 (a b : Int) (ha : 0 ≤ a ∧ a ≤ 1000000) (hb : 0 ≤ b ∧ b ≤ 1000000) : ∀ i (hi : i < [a, b].length), 0 ≤ [a, b][i] ∧ [a, b][i] ≤ 1000000 := by
  intro i hi
  match i, hi with
  | 0, _ => exact ha
  | 1, _ => exact hb
set_option maxHeartbeats 2000000 in
theorem works_any (w : World) :
    Calls Try.prog 6 #[] w fun e w' => e = .returned (.bool true) ∧ Below w.heap.size w w' := by
  go_enter Try.func6, Try.ntmps6
  go_wp2_with (go_at_call 7; refine (new_yes 2 0 2 3 _ (by decide)).mono ?_; rintro e w1 ⟨P, S, rfl, hd, hb, hP, hS⟩)
  refine (tick_at hd [0, 1] false 1 (small2 _ _ (by omega) (by omega)) (by omega) (by omega) (by decide) (by decide) (by decide)).mono ?_
  rintro e w2 ⟨rfl, hd2, hk2⟩
  go_wp2_with fail
  refine (tick_at hd2 [0, 2] true 2 (small2 _ _ (by omega) (by omega)) (by omega) (by omega) (by decide) (by decide) (by decide)).mono ?_
  rintro e w3 ⟨rfl, hd3, hk3⟩
  go_wp2_with fail
  refine (tick_at hd3 [0, 3] false 1 (small2 _ _ (by omega) (by omega)) (by omega) (by omega) (by decide) (by decide) (by decide)).mono ?_
  rintro e w4 ⟨rfl, hd4, hk4⟩
  go_wp2_with fail
  refine (dead_at hd4 1 (by decide)).mono ?_
  rintro e w5 ⟨g, cap, rfl, hc, hg, hg', hb5⟩
  have hd5 := hd4.below hb5
  go_wp2_with fail
  refine (heard_at hd5 1 [0, 0] 0 (by decide) (by decide)).mono ?_
  rintro e w6 ⟨rfl, hd6, hk6⟩
  have hc6 : w6.cell? ⟨g, 0, none⟩ = some (.int .i64 1) := by
    have h1 := hd4.s.lt
    have h2 := hd4.p.lt
    rw [World.cell?_of_block (w := w5) (hk6.block g hg' (by simp; omega))]; exact hc
  clear hc
  go_wp2_with fail
  refine (alive_at hd6 1 true (by decide)).mono ?_
  rintro e w7 ⟨rfl, m7, rfl⟩
  go_wp2_with fail
  refine (alive_at (hd6.drewN m7) 0 true (by decide)).mono ?_
  rintro e w8 ⟨rfl, m8, rfl⟩
  go_wp2_with fail
  refine (alive_at (hd6.drewN (m7 + m8)) 2 false (by decide)).mono ?_
  rintro e w9 ⟨rfl, m9, rfl⟩
  go_wp2_with fail
  refine (heard_at (hd6.drewN (m7 + m8 + m9)) 2 [0, 0] 1 (by decide) (by decide)).mono ?_
  rintro e w10 ⟨rfl, hd10, hk10⟩
  go_wp2
  go_ret
  refine ⟨rfl, ?_⟩
  have k1 : Kept [P, S] w1 w10 := ((((hk2.trans hk3).trans hk4).below hb5).trans hk6).trans (((Kept.refl _ w6).drewN (m7 + m8 + m9)).trans hk10)
  exact hb.trans (k1.toBelow (by simp; exact ⟨hP, hS⟩) hb.size)
end Go.Proofs.Ytioeahmimcnjpaa
