/- What comes of a claim. Conditions: the node lies whole in memory; not many words wait. -/
import Derived.Test.YtccmnphjiebiaaaOver
namespace Go.Proofs.Ytccmnphjiebiaaa
open Go.RowKit G
set_option linter.unusedVariables false
set_option linter.unusedSimpArgs false
def Nd.claimE (x : Nd) (t : Int) : Int := if x.role ≠ 3 then 5 else if t < x.term ∨ 1073741824 < t then 13 else 0
theorem NodeAt.set5 {T E : TypeId} {w : World} {P : Nat} {x : Nd} {h v : Value} (k : NodeAt T E w P x h v) (t : Int) : NodeAt T E (w.setCell ⟨P, 5, none⟩ (.int .i64 t)) P { x with term := t } h v :=
  ⟨(k.r.set 5 _).cast (by simp [Nd.row]), own_set k.s P 5 k.nP _, k.nP⟩
theorem NodeAt.set4 {T E : TypeId} {w : World} {P : Nat} {x : Nd} {h v : Value} (k : NodeAt T E w P x h v) (t : Int) : NodeAt T E (w.setCell ⟨P, 4, none⟩ (.int .i64 t)) P { x with lead := t } h v :=
  ⟨(k.r.set 4 _).cast (by simp [Nd.row]), own_set k.s P 4 k.nP _, k.nP⟩
def Nd.claim (x : Nd) (t : Int) (own : Bool) (n : Nat) : Nd := if x.claimE t ≠ 0 then x else if own then { x with term := t, role := 4, ticks := 0, lead := x.self }.told n else { x with term := t, role := 0, ticks := 0, lead := -1 }
set_option maxHeartbeats 2000000 in
theorem claim_any {w : World} {P n : Nat} {self wait role lead term ticks : Int} {ws : List Wd} {h v : Value} (hN : NodeAt 69 35 w P ⟨n, self, wait, role, lead, term, ticks, ws⟩ h v) (hn8 : n ≤ 8) (hl : ws.length ≤ 1048500) (t : Int) (own_ : Bool) (c : Int) (hc : Nd.claimE ⟨n, self, wait, role, lead, term, ticks, ws⟩ t = c) :
    Calls Try.prog 19 #[.pointer (some ⟨P, 0, none⟩), .int .i64 t, .bool own_] w fun e w' => e = .returned (.int .i64 c) ∧ ∃ u, NodeAt 69 35 w' P (Nd.claim ⟨n, self, wait, role, lead, term, ticks, ws⟩ t own_ n) h u ∧ Mv P v u w w' := by
  obtain ⟨c0, c1, c2, c3, c4, c5, c6, c7, c8, cf⟩ := hN.cells
  by_cases hr : role = 3
  · subst hr
    by_cases ht : t < term ∨ 1073741824 < t
    · have e1 : Nd.claimE ⟨n, self, wait, 3, lead, term, ticks, ws⟩ t = 13 := by simp [Nd.claimE, ht]
      have EC := Lib.hid (show Nd.claim ⟨n, self, wait, 3, lead, term, ticks, ws⟩ t own_ n = _ from if_pos (by rw [e1]; decide))
      rw [e1] at hc
      subst hc
      clear e1
      rcases ht with ht | ht
      · have HN := Lib.hid hN
        clear hN
        go_enter Try.func19, Try.ntmps19
        go_wp2
        go_ret
        exact ⟨rfl, v, by rw [EC.out]; exact HN.out, Mv.refl _ _ _⟩
      · by_cases ht2 : t < term
        · have HN := Lib.hid hN
          clear hN
          go_enter Try.func19, Try.ntmps19
          go_wp2
          go_ret
          exact ⟨rfl, v, by rw [EC.out]; exact HN.out, Mv.refl _ _ _⟩
        · have HN := Lib.hid hN
          clear hN
          go_enter Try.func19, Try.ntmps19
          go_wp2
          go_ret
          exact ⟨rfl, v, by rw [EC.out]; exact HN.out, Mv.refl _ _ _⟩
    · have e1 : Nd.claimE ⟨n, self, wait, 3, lead, term, ticks, ws⟩ t = 0 := by simp [Nd.claimE, ht]
      rw [e1] at hc
      subst hc
      have ht1 : ¬ t < term := fun h => ht (.inl h)
      have ht2 : t ≤ 1073741824 := by omega
      clear ht
      rcases own_ with _ | _
      · have EC := Lib.hid (show Nd.claim ⟨n, self, wait, 3, lead, term, ticks, ws⟩ t false n = ⟨n, self, wait, 0, -1, t, 0, ws⟩ by simp [Nd.claim, e1])
        clear e1
        have HN := Lib.hid (And.intro (hN.set5 t) ((Mv.refl P v w).set 5 (.int .i64 t)))
        clear hN
        go_enter Try.func19, Try.ntmps19
        go_upto_region 8 with (go_at_call 33; (with_reducible refine (nturn HN.out.1 0).mono ?_); rintro e' w1 ⟨rfl, hd1, hmv1⟩)
        have f1 := hd1.r.free 4
        have x4 : w1.cell? ⟨P, 4, none⟩ = some (.int .i64 lead) := hd1.r.cell 4 _ rfl
        have H2 := Lib.hid (And.intro (hd1.set4 (-1)) (hmv1.set 4 (.int .i64 (-1))))
        clear hd1 hmv1
        go_wp2
        go_ret
        exact ⟨rfl, v, by rw [EC.out]; exact H2.out.1, HN.out.2.trans H2.out.2⟩
      · have EC := Lib.hid (show Nd.claim ⟨n, self, wait, 3, lead, term, ticks, ws⟩ t true n = Nd.told ⟨n, self, wait, 4, self, t, 0, ws⟩ n by simp [Nd.claim, e1])
        clear e1
        have HL := Lib.hid hl
        have HC := Lib.hid hn8
        have HN := Lib.hid (And.intro (hN.set5 t) ((Mv.refl P v w).set 5 (.int .i64 t)))
        clear hN hl hn8
        go_enter Try.func19, Try.ntmps19
        go_upto_region 11 with (go_at_call 33; (with_reducible refine (nturn HN.out.1 4).mono ?_); rintro e' w1 ⟨rfl, hd1, hmv1⟩)
        have e1 : w1.cell? ⟨P, 1, none⟩ = some (.int .i64 self) := hd1.r.cell 1 _ rfl
        have f1 := hd1.r.free 4
        have x4 : w1.cell? ⟨P, 4, none⟩ = some (.int .i64 lead) := hd1.r.cell 4 _ rfl
        have H2 := Lib.hid (And.intro (show NodeAt 69 35 _ P ⟨n, self, wait, 4, self, t, 0, ws⟩ h v from hd1.set4 self) (hmv1.set 4 (.int .i64 self)))
        clear hd1 hmv1
        go_wp2_with (go_at_call 30; (with_reducible refine (tell_any (n := n) (self := self) (wait := wait) (role := 4) (lead := self) (term := t) (ticks := 0) (ws := ws) H2.out.1 HC.out HL.out).mono ?_); rintro e' w2 ⟨rfl, u, hd2, hmv2⟩)
        go_ret
        exact ⟨rfl, u, by rw [EC.out]; exact hd2, (HN.out.2.trans H2.out.2).trans hmv2⟩
  · have e1 : Nd.claimE ⟨n, self, wait, role, lead, term, ticks, ws⟩ t = 5 := by simp [Nd.claimE, hr]
    have EC := Lib.hid (show Nd.claim ⟨n, self, wait, role, lead, term, ticks, ws⟩ t own_ n = _ from if_pos (by rw [e1]; decide))
    rw [e1] at hc
    subst hc
    clear e1
    have HN := Lib.hid hN
    clear hN
    go_enter Try.func19, Try.ntmps19
    go_wp2
    go_ret
    exact ⟨rfl, v, by rw [EC.out]; exact HN.out, Mv.refl _ _ _⟩
def Nd.rclaim (x : Nd) (t : Int) (own : Bool) (n : Nat) : Nd := if x.claimE t ≠ 0 then x else if own then { x with term := t, role := 4, ticks := x.ticks, lead := x.self }.told n else { x with term := t, role := 0, ticks := x.ticks, lead := -1 }
set_option maxHeartbeats 2000000 in
theorem rclaim_any {w : World} {P n : Nat} {self wait role lead term ticks : Int} {ws : List Wd} {h v : Value} (hN : NodeAt 52 31 w P ⟨n, self, wait, role, lead, term, ticks, ws⟩ h v) (hn8 : n ≤ 8) (hl : ws.length ≤ 1048500) (t : Int) (own_ : Bool) (c : Int) (hc : Nd.claimE ⟨n, self, wait, role, lead, term, ticks, ws⟩ t = c) :
    Calls Try.prog 20 #[.pointer (some ⟨P, 0, none⟩), .int .i64 t, .bool own_] w fun e w' => e = .returned (.int .i64 c) ∧ ∃ u, NodeAt 52 31 w' P (Nd.rclaim ⟨n, self, wait, role, lead, term, ticks, ws⟩ t own_ n) h u ∧ Mv P v u w w' := by
  obtain ⟨c0, c1, c2, c3, c4, c5, c6, c7, c8, cf⟩ := hN.cells
  by_cases hr : role = 3
  · subst hr
    by_cases ht : t < term ∨ 1073741824 < t
    · have e1 : Nd.claimE ⟨n, self, wait, 3, lead, term, ticks, ws⟩ t = 13 := by simp [Nd.claimE, ht]
      have EC := Lib.hid (show Nd.rclaim ⟨n, self, wait, 3, lead, term, ticks, ws⟩ t own_ n = _ from if_pos (by rw [e1]; decide))
      rw [e1] at hc
      subst hc
      clear e1
      rcases ht with ht | ht
      · have HN := Lib.hid hN
        clear hN
        go_enter Try.func20, Try.ntmps20
        go_wp2
        go_ret
        exact ⟨rfl, v, by rw [EC.out]; exact HN.out, Mv.refl _ _ _⟩
      · by_cases ht2 : t < term
        · have HN := Lib.hid hN
          clear hN
          go_enter Try.func20, Try.ntmps20
          go_wp2
          go_ret
          exact ⟨rfl, v, by rw [EC.out]; exact HN.out, Mv.refl _ _ _⟩
        · have HN := Lib.hid hN
          clear hN
          go_enter Try.func20, Try.ntmps20
          go_wp2
          go_ret
          exact ⟨rfl, v, by rw [EC.out]; exact HN.out, Mv.refl _ _ _⟩
    · have e1 : Nd.claimE ⟨n, self, wait, 3, lead, term, ticks, ws⟩ t = 0 := by simp [Nd.claimE, ht]
      rw [e1] at hc
      subst hc
      have ht1 : ¬ t < term := fun h => ht (.inl h)
      have ht2 : t ≤ 1073741824 := by omega
      clear ht
      rcases own_ with _ | _
      · have EC := Lib.hid (show Nd.rclaim ⟨n, self, wait, 3, lead, term, ticks, ws⟩ t false n = ⟨n, self, wait, 0, -1, t, ticks, ws⟩ by simp [Nd.rclaim, e1])
        clear e1
        have HN := Lib.hid (And.intro (((hN.set5 t).set3 0).set4 (-1)) ((((Mv.refl P v w).set 5 (.int .i64 t)).set 3 (.int .i64 0)).set 4 (.int .i64 (-1))))
        clear hN
        go_enter Try.func20, Try.ntmps20
        go_wp2
        go_ret
        exact ⟨rfl, v, by rw [EC.out]; exact HN.out.1, HN.out.2⟩
      · have EC := Lib.hid (show Nd.rclaim ⟨n, self, wait, 3, lead, term, ticks, ws⟩ t true n = Nd.told ⟨n, self, wait, 4, self, t, ticks, ws⟩ n by simp [Nd.rclaim, e1])
        clear e1
        have HL := Lib.hid hl
        have HC := Lib.hid hn8
        have HN := Lib.hid (And.intro (((hN.set5 t).set3 4).set4 self) ((((Mv.refl P v w).set 5 (.int .i64 t)).set 3 (.int .i64 4)).set 4 (.int .i64 self)))
        clear hN hl hn8
        go_enter Try.func20, Try.ntmps20
        go_wp2_with (go_at_call 35; (with_reducible refine (rall_any (n := n) (self := self) (wait := wait) (role := 4) (lead := self) (term := t) (ticks := ticks) (ws := ws) HN.out.1 HC.out HL.out).mono ?_); rintro e' w2 ⟨rfl, u, hd2, hmv2⟩)
        go_ret
        exact ⟨rfl, u, by rw [EC.out]; exact hd2, HN.out.2.trans hmv2⟩
  · have e1 : Nd.claimE ⟨n, self, wait, role, lead, term, ticks, ws⟩ t = 5 := by simp [Nd.claimE, hr]
    have EC := Lib.hid (show Nd.rclaim ⟨n, self, wait, role, lead, term, ticks, ws⟩ t own_ n = _ from if_pos (by rw [e1]; decide))
    rw [e1] at hc
    subst hc
    clear e1
    have HN := Lib.hid hN
    clear hN
    go_enter Try.func20, Try.ntmps20
    go_wp2
    go_ret
    exact ⟨rfl, v, by rw [EC.out]; exact HN.out, Mv.refl _ _ _⟩
end Go.Proofs.Ytccmnphjiebiaaa
