/- Asking all greater ones. Conditions: the node lies whole in memory, its words in a row of their own. -/
import Derived.Test.YtccmnphjiebiaaaTell
namespace Go.Proofs.Ytccmnphjiebiaaa
open Go.RowKit G
set_option linter.unusedVariables false
set_option linter.unusedSimpArgs false
theorem wrap64_mid {n : Int} (h : -1000000 ≤ n) (h' : n ≤ 1000000) : wrap64 n = n := by unfold wrap64; omega
set_option maxHeartbeats 1000000 in
theorem ask_any {w : World} {P : Nat} {n self wait role lead term ticks : Int} {ws : List Wd} {h v : Value} (hN : NodeAt 69 35 w P ⟨n, self, wait, role, lead, term, ticks, ws⟩ h v) (h0 : 0 ≤ self) (h1 : self < n) (hn : n ≤ 8) (hl : ws.length ≤ 1048500) :
    Calls Try.prog 32 #[.pointer (some ⟨P, 0, none⟩)] w fun e w' => e = .returned (.tuple #[]) ∧ ∃ u, NodeAt 69 35 w' P (Nd.ask ⟨n, self, wait, role, lead, term, ticks, ws⟩) h u ∧ Mv P v u w w' := by
  obtain ⟨c0, c1, c2, c3, c4, c5, c6, c7, c8, cf⟩ := hN.cells
  by_cases hs : self = n - 1
  · have HA := Lib.hid (show Nd.ask ⟨n, self, wait, role, lead, term, ticks, ws⟩ = Nd.turn ⟨n, self, wait, role, lead, term, ticks, ws⟩ 3 by simp [Nd.ask, hs])
    have HN := Lib.hid hN.drew
    clear hN
    go_enter Try.func32, Try.ntmps32
    go_wp2
    go_region
    go_wp2_with (go_at_call 33; (with_reducible refine (nturn HN.out 3).mono ?_); rintro e' w1 ⟨rfl, hd1, hmv1⟩)
    refine bodyPost_ret (results_none rfl _ _ _) rfl ?_
    refine ⟨rfl, v, by rw [HA.out]; exact hd1, ⟨?_, hmv1.new⟩⟩
    exact Kept.trans (Kept.refl _ _).drew hmv1.keep
  · obtain ⟨m, hm⟩ : ∃ m : Nat, (m : Int) = n - 1 - self := ⟨(n - 1 - self).toNat, by omega⟩
    have HA := Lib.hid (show Nd.ask ⟨n, self, wait, role, lead, term, ticks, ws⟩ = Nd.asked ⟨n, self, wait, role, lead, term, ticks, ws⟩ m by
      have e : (n - 1 - self).toNat = m := by omega
      simp [Nd.ask, hs, e])
    have HN := Lib.hid hN.drew
    clear hN
    go_enter Try.func32, Try.ntmps32
    go_wp2
    go_region
    go_upto_region 3 with (go_at_call 33; (with_reducible refine (nturn HN.out 1).mono ?_); rintro e' w1 ⟨rfl, hd1, hmv1⟩)
    obtain ⟨c0, c1, c2, c3, c4, c5, c6, c7, c8, cf⟩ := hd1.cells
    simp only [Nd.turn] at c0 c1 c2 c3 c4 c5 c6
    have HM := Lib.hid (And.intro hd1 (show Mv P v v w w1 from ⟨Kept.trans (Kept.refl _ _).drew hmv1.keep, hmv1.new⟩))
    clear hd1 hmv1
    go_wp2
    clear c0 c1 c2 c3 c4 c5 c6 c7 c8 cf
    go_loopw [2] (fun i wr => ∃ k : Nat, k ≤ m ∧ i = .int .i64 (self + 1 + k) ∧ ∃ u, NodeAt 69 35 wr P (Nd.asked ⟨n, self, wait, role, lead, term, ticks, ws⟩ k) h u ∧ Mv P v u w wr) (fun i _ => (n - intOf i).toNat)
    case atStart => exact ⟨0, Nat.zero_le _, by go_num, v, by rw [asked_zero]; exact HM.out.1, HM.out.2⟩
    case round =>
      obtain ⟨k, hk, rfl, u, hd, hmv⟩ := hrel
      obtain ⟨c0, c1, c2, c3, c4, c5, c6, c7, c8, cf⟩ := hd.cells
      simp only [Nd.asked] at c0 c1 c2 c3 c4 c5 c6
      generalize hz : self + 1 + (k : Int) = z
      have HZ := Lib.hid hz
      by_cases hlt : k < m
      · have HL := Lib.hid (show (Nd.asked ⟨n, self, wait, role, lead, term, ticks, ws⟩ k).ws.length ≤ 1048576 by
          have := elects_len self (self + 1) k
          simp [Nd.asked]; omega)
        have HN2 := Lib.hid (And.intro hd hmv)
        clear hd hmv
        have hzn : z < n := by omega
        clear hz
        go_wp2_with (go_at_call 40; (with_reducible refine (nsay HN2.out.1 1 z 0 HL.out).mono ?_); rintro e' w1 ⟨rfl, u1, hd1, hmv1⟩)
        go_roundw
        case rel =>
          have hz := HZ.out
          exact ⟨k + 1, by omega, by rw [wrap64_mid (by omega) (by omega), show z + 1 = self + 1 + ((k + 1 : Nat) : Int) by omega], u1, by rw [asked_more]; subst hz; exact hd1, HN2.out.2.trans hmv1⟩
        case measure => have hz := HZ.out; rw [wrap64_mid (by omega) (by omega)]; simp [intOf]; omega
      · obtain rfl : k = m := by omega
        have hzn : ¬ z < n := by omega
        clear hz
        have HN2 := Lib.hid (And.intro hd hmv)
        clear hd hmv
        go_wp2
        go_end0
        exact ⟨rfl, u, by rw [HA.out]; exact HN2.out.1, HN2.out.2⟩
/-- The reference's node that has asked k others. -/
def Nd.rasked (x : Nd) (k : Nat) : Nd := if k = 0 then x.turn 3 else x.asked k
theorem rasked_role (x : Nd) (k : Nat) : { x.rasked k with role := 1 } = x.asked k := by
  unfold Nd.rasked
  split
  · next h => subst h; simp [Nd.turn, Nd.asked, elects]
  · simp [Nd.asked]
theorem NodeAt.set3 {T E : TypeId} {w : World} {P : Nat} {x : Nd} {h v : Value} (k : NodeAt T E w P x h v) (r : Int) : NodeAt T E (w.setCell ⟨P, 3, none⟩ (.int .i64 r)) P { x with role := r } h v :=
  ⟨(k.r.set 3 _).cast (by simp [Nd.row]), own_set k.s P 3 k.nP _, k.nP⟩
theorem Mv.set {P : Nat} {a b : Value} {w0 w1 : World} (h : Mv P a b w0 w1) (i : Nat) (u : Value) : Mv P a b w0 (w1.setCell ⟨P, i, none⟩ u) := ⟨h.keep.set P i (.inl (by simp)) u, h.new⟩
set_option maxHeartbeats 1000000 in
theorem rask_any {w : World} {P : Nat} {n self wait role lead term ticks : Int} {ws : List Wd} {h v : Value} (hN : NodeAt 52 31 w P ⟨n, self, wait, role, lead, term, ticks, ws⟩ h v) (h0 : 0 ≤ self) (h1 : self < n) (hn : n ≤ 8) (hl : ws.length ≤ 1048500) :
    Calls Try.prog 37 #[.pointer (some ⟨P, 0, none⟩)] w fun e w' => e = .returned (.tuple #[]) ∧ ∃ u, NodeAt 52 31 w' P (Nd.ask ⟨n, self, wait, role, lead, term, ticks, ws⟩) h u ∧ Mv P v u w w' := by
  obtain ⟨c0, c1, c2, c3, c4, c5, c6, c7, c8, cf⟩ := hN.cells
  obtain ⟨m, hm⟩ : ∃ m : Nat, (m : Int) = n - 1 - self := ⟨(n - 1 - self).toNat, by omega⟩
  have HA := Lib.hid (show Nd.ask ⟨n, self, wait, role, lead, term, ticks, ws⟩ = Nd.rasked ⟨n, self, wait, role, lead, term, ticks, ws⟩ m by
    have e : (n - 1 - self).toNat = m := by omega
    by_cases hs : self = n - 1
    · have : m = 0 := by omega
      simp [Nd.ask, Nd.rasked, hs, this]
    · have : m ≠ 0 := by omega
      simp [Nd.ask, Nd.rasked, hs, e, this])
  have HN := Lib.hid hN
  clear hN
  go_enter Try.func37, Try.ntmps37
  go_wp2
  clear c0 c1 c2 c3 c4 c5 c6 c7 c8 cf
  go_loopw [2] (fun i wr => ∃ k : Nat, k ≤ m ∧ i = .int .i64 (self + 1 + k) ∧ ∃ u, NodeAt 52 31 wr P (Nd.rasked ⟨n, self, wait, role, lead, term, ticks, ws⟩ k) h u ∧ Mv P v u w wr) (fun i _ => (n - intOf i).toNat)
  case atStart => exact ⟨0, Nat.zero_le _, by simp, v, HN.out.set6 3 0, ((Mv.refl _ _ _).set 3 _).set 6 _⟩
  case round =>
    obtain ⟨k, hk, rfl, u, hd, hmv⟩ := hrel
    have hN3 := hd.set3 1
    rw [rasked_role] at hN3
    obtain ⟨c0, c1, c2, c3, c4, c5, c6, c7, c8, cf⟩ := hd.cells
    have e0 : (Nd.rasked ⟨n, self, wait, role, lead, term, ticks, ws⟩ k).n = n := by unfold Nd.rasked; split <;> rfl
    rw [e0] at c0
    clear c1 c2 c4 c5 c6 c7 c8 e0
    generalize hz : self + 1 + (k : Int) = z
    have HZ := Lib.hid hz
    by_cases hlt : k < m
    · have HL := Lib.hid (show (Nd.asked ⟨n, self, wait, role, lead, term, ticks, ws⟩ k).ws.length ≤ 1048576 by
        have := elects_len self (self + 1) k
        simp [Nd.asked]; omega)
      have HN2 := Lib.hid (And.intro hN3 (hmv.set 3 (.int .i64 1)))
      clear hd hmv hN3
      have hzn : z < n := by omega
      clear hz
      go_wp2_with (go_at_call 42; (with_reducible refine (rsay HN2.out.1 1 z 0 HL.out).mono ?_); rintro e' w1 ⟨rfl, u1, hd1, hmv1⟩)
      go_roundw
      case rel =>
        have hz := HZ.out
        exact ⟨k + 1, by omega, by rw [wrap64_mid (by omega) (by omega), show z + 1 = self + 1 + ((k + 1 : Nat) : Int) by omega], u1, by rw [Nd.rasked, if_neg (by omega), asked_more]; subst hz; exact hd1, HN2.out.2.trans hmv1⟩
      case measure => have hz := HZ.out; rw [wrap64_mid (by omega) (by omega)]; simp [intOf]; omega
    · obtain rfl : k = m := by omega
      have hzn : ¬ z < n := by omega
      clear hz
      have HN2 := Lib.hid (And.intro hd hmv)
      clear hd hmv hN3
      go_wp2
      go_end0
      exact ⟨rfl, u, by rw [HA.out]; exact HN2.out.1, HN2.out.2⟩
end Go.Proofs.Ytccmnphjiebiaaa
