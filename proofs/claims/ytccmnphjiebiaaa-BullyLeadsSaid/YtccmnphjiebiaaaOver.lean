/- A node that hears of a greater term. Conditions: the node lies whole in memory. -/
import Derived.Test.YtccmnphjiebiaaaActs
namespace Go.Proofs.Ytccmnphjiebiaaa
open Go.RowKit G
set_option linter.unusedVariables false
set_option linter.unusedSimpArgs false
/-- What 'Over' makes of a node; the reference's ticks stay. -/
def Nd.over (x : Nd) (t : Int) : Nd := if x.role = 4 ∧ x.term < t ∧ t ≤ 1073741824 then { x with term := t, lead := -1, role := 0, ticks := 0 } else x
def Nd.rover (x : Nd) (t : Int) : Nd := if x.role = 4 ∧ x.term < t ∧ t ≤ 1073741824 then { x with term := t, lead := -1, role := 0 } else x
theorem NodeAt.set45 {T E : TypeId} {w : World} {P : Nat} {x : Nd} {h v : Value} (k : NodeAt T E w P x h v) (t l : Int) : NodeAt T E ((w.setCell ⟨P, 5, none⟩ (.int .i64 t)).setCell ⟨P, 4, none⟩ (.int .i64 l)) P { x with term := t, lead := l } h v :=
  ⟨((k.r.set 5 _).set 4 _).cast (by simp [Nd.row]), own_set (own_set k.s P 5 k.nP _) P 4 k.nP _, k.nP⟩
theorem NodeAt.set534 {T E : TypeId} {w : World} {P : Nat} {x : Nd} {h v : Value} (k : NodeAt T E w P x h v) (t r l : Int) : NodeAt T E (((w.setCell ⟨P, 5, none⟩ (.int .i64 t)).setCell ⟨P, 3, none⟩ (.int .i64 r)).setCell ⟨P, 4, none⟩ (.int .i64 l)) P { x with term := t, role := r, lead := l } h v :=
  ⟨(((k.r.set 5 _).set 3 _).set 4 _).cast (by simp [Nd.row]), own_set (own_set (own_set k.s P 5 k.nP _) P 3 k.nP _) P 4 k.nP _, k.nP⟩
set_option maxHeartbeats 1000000 in
theorem over_any {w : World} {P : Nat} {n self wait role lead term ticks : Int} {ws : List Wd} {h v : Value} (hN : NodeAt 69 35 w P ⟨n, self, wait, role, lead, term, ticks, ws⟩ h v) (t : Int) :
    Calls Try.prog 17 #[.pointer (some ⟨P, 0, none⟩), .int .i64 t] w fun e w' => e = .returned (.tuple #[]) ∧ NodeAt 69 35 w' P (Nd.over ⟨n, self, wait, role, lead, term, ticks, ws⟩ t) h v ∧ Mv P v v w w' := by
  obtain ⟨c0, c1, c2, c3, c4, c5, c6, c7, c8, cf⟩ := hN.cells
  have no : ¬ (role = 4 ∧ term < t ∧ t ≤ 1073741824) → (Nd.over ⟨n, self, wait, role, lead, term, ticks, ws⟩ t) = ⟨n, self, wait, role, lead, term, ticks, ws⟩ := fun hc => by simp only [Nd.over]; rw [if_neg hc]
  by_cases hr : role = 4
  · subst hr
    by_cases ht : term < t
    · by_cases hm : t ≤ 1073741824
      · have E := Lib.hid (show (Nd.over ⟨n, self, wait, 4, lead, term, ticks, ws⟩ t) = _ from if_pos ⟨rfl, ht, hm⟩)
        clear no
        have HN := Lib.hid (And.intro (hN.set45 t (-1)) (((Mv.refl P v w).set 5 (.int .i64 t)).set 4 (.int .i64 (-1))))
        clear hN
        go_enter Try.func17, Try.ntmps17
        go_wp2_with (go_at_call 33; (with_reducible refine (nturn HN.out.1 0).mono ?_); rintro e' w1 ⟨rfl, hd1, hmv1⟩)
        go_end0
        exact ⟨rfl, by rw [E.out]; exact hd1, HN.out.2.trans hmv1⟩
      · have E := Lib.hid (no (fun h => hm h.2.2))
        have HN := Lib.hid hN
        clear no hN
        go_enter Try.func17, Try.ntmps17
        go_wp2
        go_end0
        exact ⟨rfl, by rw [E.out]; exact HN.out, Mv.refl _ _ _⟩
    · have E := Lib.hid (no (fun h => ht h.2.1))
      have HN := Lib.hid hN
      clear no hN
      go_enter Try.func17, Try.ntmps17
      go_wp2
      go_end0
      exact ⟨rfl, by rw [E.out]; exact HN.out, Mv.refl _ _ _⟩
  · have E := Lib.hid (no (fun h => hr h.1))
    have HN := Lib.hid hN
    clear no hN
    go_enter Try.func17, Try.ntmps17
    go_wp2
    go_end0
    exact ⟨rfl, by rw [E.out]; exact HN.out, Mv.refl _ _ _⟩
set_option maxHeartbeats 1000000 in
theorem rover_any {w : World} {P : Nat} {n self wait role lead term ticks : Int} {ws : List Wd} {h v : Value} (hN : NodeAt 52 31 w P ⟨n, self, wait, role, lead, term, ticks, ws⟩ h v) (t : Int) :
    Calls Try.prog 18 #[.pointer (some ⟨P, 0, none⟩), .int .i64 t] w fun e w' => e = .returned (.tuple #[]) ∧ NodeAt 52 31 w' P (Nd.rover ⟨n, self, wait, role, lead, term, ticks, ws⟩ t) h v ∧ Mv P v v w w' := by
  obtain ⟨c0, c1, c2, c3, c4, c5, c6, c7, c8, cf⟩ := hN.cells
  have no : ¬ (role = 4 ∧ term < t ∧ t ≤ 1073741824) → (Nd.rover ⟨n, self, wait, role, lead, term, ticks, ws⟩ t) = ⟨n, self, wait, role, lead, term, ticks, ws⟩ := fun hc => by simp only [Nd.rover]; rw [if_neg hc]
  by_cases hr : role = 4
  · subst hr
    by_cases ht : term < t
    · by_cases hm : t ≤ 1073741824
      · have E := Lib.hid (show (Nd.rover ⟨n, self, wait, 4, lead, term, ticks, ws⟩ t) = _ from if_pos ⟨rfl, ht, hm⟩)
        clear no
        have HN := Lib.hid (And.intro (hN.set534 t 0 (-1)) ((((Mv.refl P v w).set 5 (.int .i64 t)).set 3 (.int .i64 0)).set 4 (.int .i64 (-1))))
        clear hN
        go_enter Try.func18, Try.ntmps18
        go_wp2
        go_end0
        exact ⟨rfl, by rw [E.out]; exact HN.out.1, HN.out.2⟩
      · have E := Lib.hid (no (fun h => hm h.2.2))
        have HN := Lib.hid hN
        clear no hN
        go_enter Try.func18, Try.ntmps18
        go_wp2
        go_end0
        exact ⟨rfl, by rw [E.out]; exact HN.out, Mv.refl _ _ _⟩
    · have E := Lib.hid (no (fun h => ht h.2.1))
      have HN := Lib.hid hN
      clear no hN
      go_enter Try.func18, Try.ntmps18
      go_wp2
      go_end0
      exact ⟨rfl, by rw [E.out]; exact HN.out, Mv.refl _ _ _⟩
  · have E := Lib.hid (no (fun h => hr h.1))
    have HN := Lib.hid hN
    clear no hN
    go_enter Try.func18, Try.ntmps18
    go_wp2
    go_end0
    exact ⟨rfl, by rw [E.out]; exact HN.out, Mv.refl _ _ _⟩
end Go.Proofs.Ytccmnphjiebiaaa
