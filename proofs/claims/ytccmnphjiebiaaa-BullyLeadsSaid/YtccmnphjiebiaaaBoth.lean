/- Both nodes go on alike: a step of the program's and one of the reference's. Plain law. Conditions: fewer than two hundred steps. -/
import Derived.Test.YtccmnphjiebiaaaActs2
namespace Go.Proofs.Ytccmnphjiebiaaa
open Go.RowKit
set_option linter.unusedVariables false
set_option linter.unusedSimpArgs false
/-- Two nodes that differ in ticks alone, and there only where they do not count. -/
structure NRel (x y : Nd) : Prop where
  n : x.n = y.n
  self : x.self = y.self
  wait : x.wait = y.wait
  role : x.role = y.role
  lead : x.lead = y.lead
  term : x.term = y.term
  ws : x.ws = y.ws
  ticks : x.role = 1 ∨ x.role = 2 → x.ticks = y.ticks
theorem NRel.refl (x : Nd) : NRel x x := ⟨rfl, rfl, rfl, rfl, rfl, rfl, rfl, fun _ => rfl⟩
theorem NRel.ask {x y : Nd} (h : NRel x y) : x.ask = y.ask := by
  obtain ⟨n, self, wait, role, lead, term, ticks, ws⟩ := x
  obtain ⟨n', self', wait', role', lead', term', ticks', ws'⟩ := y
  obtain ⟨h1, h2, h3, h4, h5, h6, h7, -⟩ := h
  simp only at h1 h2 h3 h4 h5 h6 h7
  subst h1 h2 h3 h4 h5 h6 h7
  simp [Nd.ask, Nd.turn, Nd.asked]
theorem NRel.say {x y : Nd} (h : NRel x y) (k t m : Int) : NRel (x.say k t m) (y.say k t m) :=
  ⟨h.n, h.self, h.wait, h.role, h.lead, h.term, by simp [Nd.say, h.ws, h.self], h.ticks⟩
theorem NRel.told {x y : Nd} (h : NRel x y) (n : Nat) : NRel (x.told n) (y.told n) :=
  ⟨h.n, h.self, h.wait, h.role, h.lead, h.term, by simp [Nd.told, h.ws, h.self, h.term], h.ticks⟩
theorem NRel.tick {x y : Nd} (h : NRel x y) (n : Nat) (b a : Bool) : NRel (x.tick n b a) (y.rtick n b a) := by
  obtain ⟨n0, self, wait, role, lead, term, ticks, ws⟩ := x
  obtain ⟨n', self', wait', role', lead', term', ticks', ws'⟩ := y
  obtain ⟨h1, h2, h3, h4, h5, h6, h7, h8⟩ := h
  simp only at h1 h2 h3 h4 h5 h6 h7 h8
  subst h1 h2 h3 h4 h5 h6 h7
  unfold Nd.tick Nd.rtick
  simp only
  by_cases c1 : role = 4 ∧ b = true
  · rw [if_pos c1, if_pos c1]
    exact NRel.told (x := ⟨n0, self, wait, role, lead, term, ticks + 1, ws⟩) (y := ⟨n0, self, wait, role, lead, term, ticks', ws⟩) ⟨rfl, rfl, rfl, rfl, rfl, rfl, rfl, fun hh => by have := c1.1; simp only at hh; omega⟩ n
  rw [if_neg c1, if_neg c1]
  by_cases c2 : role = 0 ∧ a = false
  · rw [if_pos c2, if_pos c2]
    have e : Nd.ask ⟨n0, self, wait, role, lead, term, ticks + 1, ws⟩ = Nd.ask ⟨n0, self, wait, role, lead, term, ticks', ws⟩ :=
      NRel.ask ⟨rfl, rfl, rfl, rfl, rfl, rfl, rfl, fun hh => by have := c2.1; simp only at hh; omega⟩
    rw [e]; exact NRel.refl _
  rw [if_neg c2, if_neg c2]
  by_cases c3 : role = 1
  · subst c3
    have := h8 (.inl rfl)
    subst this
    rw [if_pos rfl]
    by_cases c : ticks + 1 = wait
    · rw [if_pos ⟨rfl, c⟩, if_pos c]
      exact ⟨rfl, rfl, rfl, rfl, rfl, rfl, rfl, fun hh => by simp [Nd.turn] at hh⟩
    · rw [if_neg (by simp [c]), if_neg (by simp), if_neg c]; exact NRel.refl _
  rw [if_neg (by simp [c3]), if_neg c3]
  by_cases c4 : role = 2
  · subst c4
    have := h8 (.inr rfl)
    subst this
    rw [if_pos rfl]
    by_cases c : ticks + 1 = 2 * wait
    · rw [if_pos ⟨rfl, c⟩, if_pos c]; exact NRel.refl _
    · rw [if_neg (by simp [c]), if_neg c]; exact NRel.refl _
  rw [if_neg (by simp [c4]), if_neg c4]
  exact ⟨rfl, rfl, rfl, rfl, rfl, rfl, rfl, fun hh => by simp only at hh; omega⟩
theorem NRel.take {x y : Nd} (h : NRel x y) (z : Wd) : NRel (x.take z) (y.rtake z) := by
  unfold Nd.take Nd.rtake
  by_cases c1 : z.k = 1
  · rw [if_pos c1, if_pos c1, ← h.self, ← h.role]
    by_cases c2 : x.self < z.f
    · rw [if_pos c2, if_pos c2]; exact h
    · rw [if_neg c2, if_neg c2]
      by_cases c3 : x.role = 0
      · rw [if_pos c3, if_pos c3, (h.say 2 z.f 0).ask]; exact NRel.refl _
      · rw [if_neg c3, if_neg c3]; exact h.say 2 z.f 0
  rw [if_neg c1, if_neg c1]
  by_cases c2 : z.k = 2
  · rw [if_pos c2, if_pos c2, ← h.role]
    by_cases c3 : x.role = 1
    · rw [if_pos c3, if_pos c3]
      exact ⟨h.n, h.self, h.wait, rfl, h.lead, h.term, h.ws, fun _ => rfl⟩
    · rw [if_neg c3, if_neg c3]; exact h
  rw [if_neg c2, if_neg c2, ← h.term]
  by_cases c3 : x.term ≤ z.m
  · rw [if_pos c3, if_pos c3]
    exact ⟨h.n, h.self, h.wait, rfl, rfl, rfl, h.ws, fun hh => by simp [Nd.turn] at hh⟩
  · rw [if_neg c3, if_neg c3]; exact h
theorem NRel.over {x y : Nd} (h : NRel x y) (t : Int) : NRel (x.over t) (y.rover t) := by
  unfold Nd.over Nd.rover
  rw [← h.role, ← h.term]
  split
  · exact ⟨h.n, h.self, h.wait, rfl, rfl, rfl, h.ws, fun hh => by simp at hh⟩
  · exact h
theorem NRel.claimE {x y : Nd} (h : NRel x y) (t : Int) : x.claimE t = y.claimE t := by unfold Nd.claimE; rw [h.role, h.term]
theorem NRel.claim {x y : Nd} (h : NRel x y) (t : Int) (o : Bool) (n : Nat) : NRel (x.claim t o n) (y.rclaim t o n) := by
  unfold Nd.claim Nd.rclaim
  rw [← h.claimE t]
  split
  · exact h
  · split
    · exact NRel.told (x := { x with term := t, role := 4, ticks := 0, lead := x.self }) (y := { y with term := t, role := 4, ticks := y.ticks, lead := y.self }) ⟨h.n, h.self, h.wait, rfl, h.self, rfl, h.ws, fun hh => by simp at hh⟩ n
    · exact ⟨h.n, h.self, h.wait, rfl, rfl, rfl, h.ws, fun hh => by simp at hh⟩
theorem NRel.outed {x y : Nd} (h : NRel x y) : NRel x.outed y.outed := ⟨h.n, h.self, h.wait, h.role, h.lead, h.term, rfl, h.ticks⟩
theorem NRel.wants {x y : Nd} (h : NRel x y) : x.wants = y.wants := by unfold Nd.wants; rw [h.role, h.term]
/-- What stays in a node; m: how many words may wait. -/
structure Bd (m n : Nat) (x : Nd) : Prop where
  xn : x.n = n
  s0 : 0 ≤ x.self
  s1 : x.self < n
  w0 : 1 ≤ x.wait
  w1 : x.wait ≤ 100
  t0 : 0 ≤ x.term
  t1 : x.term ≤ 1073741824
  wl : x.ws.length ≤ m
  l0 : -1 ≤ x.lead
  l1 : x.lead < n
  r0 : 0 ≤ x.role
  r1 : x.role ≤ 4
  ld : x.role = 4 → x.lead = x.self
theorem Bd.more {m j n : Nat} {x : Nd} (h : Bd m n x) (hj : m ≤ j) : Bd j n x := ⟨h.xn, h.s0, h.s1, h.w0, h.w1, h.t0, h.t1, Nat.le_trans h.wl hj, h.l0, h.l1, h.r0, h.r1, h.ld⟩
theorem Bd.ticks {m n : Nat} {x : Nd} (h : Bd m n x) (t : Int) : Bd m n { x with ticks := t } := ⟨h.xn, h.s0, h.s1, h.w0, h.w1, h.t0, h.t1, h.wl, h.l0, h.l1, h.r0, h.r1, h.ld⟩
theorem Bd.turn {m n : Nat} {x : Nd} (h : Bd m n x) (r : Int) (h0 : 0 ≤ r) (h1 : r ≤ 4) (h4 : r ≠ 4) : Bd m n (x.turn r) := ⟨h.xn, h.s0, h.s1, h.w0, h.w1, h.t0, h.t1, h.wl, h.l0, h.l1, h0, h1, fun e => absurd e h4⟩
theorem Bd.say {m n : Nat} {x : Nd} (h : Bd m n x) (k t y : Int) : Bd (m + 8) n (x.say k t y) := ⟨h.xn, h.s0, h.s1, h.w0, h.w1, h.t0, h.t1, by have := h.wl; simp [Nd.say]; omega, h.l0, h.l1, h.r0, h.r1, h.ld⟩
theorem ask_len (x : Nd) (n : Nat) (h : x.n = n) (h0 : 0 ≤ x.self) : x.ask.ws.length ≤ x.ws.length + n := by
  unfold Nd.ask
  split
  · simp [Nd.turn]
  · simp [Nd.asked, elects_len]; omega
theorem Nd.ask_parts (x : Nd) : x.ask.n = x.n ∧ x.ask.self = x.self ∧ x.ask.wait = x.wait ∧ x.ask.term = x.term ∧ x.ask.ticks = 0 ∧ x.ask.lead = x.lead ∧ (x.ask.role = 1 ∨ x.ask.role = 3) := by
  unfold Nd.ask; split <;> simp [Nd.turn, Nd.asked]
theorem Bd.ask {m n : Nat} {x : Nd} (h : Bd m n x) (hn : n ≤ 8) : Bd (m + 8) n x.ask := by
  have hl := ask_len x n h.xn h.s0
  obtain ⟨e1, e2, e3, e4, e5, e6, e7⟩ := x.ask_parts
  have := h.wl
  exact ⟨by rw [e1]; exact h.xn, by rw [e2]; exact h.s0, by rw [e2]; exact h.s1, by rw [e3]; exact h.w0, by rw [e3]; exact h.w1, by rw [e4]; exact h.t0, by rw [e4]; exact h.t1, by omega, by rw [e6]; exact h.l0, by rw [e6]; exact h.l1, by omega, by omega, fun hh => by omega⟩
theorem told_len (x : Nd) (n : Nat) : (x.told n).ws.length ≤ x.ws.length + n := by
  have := leads_len x.self x.term n
  simp [Nd.told]; omega
theorem Bd.told {m n : Nat} {x : Nd} (h : Bd m n x) (hn : n ≤ 8) : Bd (m + 8) n (x.told n) := by
  have hl := told_len x n
  have hw := h.wl
  exact ⟨h.xn, h.s0, h.s1, h.w0, h.w1, h.t0, h.t1, by omega, h.l0, h.l1, h.r0, h.r1, h.ld⟩
theorem Bd.tick {m n : Nat} {x : Nd} (h : Bd m n x) (hn : n ≤ 8) (b a : Bool) : Bd (m + 16) n (x.tick n b a) := by
  have h1 := h.ticks (x.ticks + 1)
  unfold Nd.tick
  split
  · exact (h1.told hn).more (by omega)
  split
  · exact (h1.ask hn).more (by omega)
  split
  · exact (h1.turn 3 (by omega) (by omega) (by omega)).more (by omega)
  split
  · exact (h1.ask hn).more (by omega)
  · exact h1.more (by omega)
theorem Bd.take {m n : Nat} {x : Nd} (h : Bd m n x) (hn : n ≤ 8) (y : Wd) (hc : checkE x.n x.self y = 0) : Bd (m + 16) n (x.take y) := by
  rcases check_cases x.n x.self y with ⟨e, _⟩ | ⟨ht, hf, hnf, hs2, ⟨e, _⟩ | ⟨_, hh⟩⟩
  · rw [hc] at e; cases e
  · rw [hc] at e; cases e
  have hxn := h.xn
  have h8 := h.say 2 y.f 0
  unfold Nd.take
  split
  · split
    · exact h.more (by omega)
    · split
      · exact h8.ask hn
      · exact h8.more (by omega)
  · split
    · split
      · exact (h.turn 2 (by omega) (by omega) (by omega)).more (by omega)
      · exact h.more (by omega)
    · split
      · next q1 q2 q3 =>
        have hw := h.wl
        exact ⟨h.xn, h.s0, h.s1, h.w0, h.w1, by have := h.t0; show 0 ≤ y.m; omega, by show y.m ≤ _; omega, by show x.ws.length ≤ _; omega, by show -1 ≤ y.f; omega, by show y.f < n; omega, by simp [Nd.turn], by simp [Nd.turn], fun e => by simp [Nd.turn] at e⟩
      · exact h.more (by omega)
theorem Bd.over {m n : Nat} {x : Nd} (h : Bd m n x) (t : Int) : Bd m n (x.over t) := by
  unfold Nd.over
  split
  · next hh =>
    have := h.t0
    have := h.s1
    have := h.s0
    exact ⟨h.xn, h.s0, h.s1, h.w0, h.w1, by show 0 ≤ t; omega, hh.2.2, h.wl, by simp, by show (-1 : Int) < n; omega, by simp, by simp, fun e => by simp at e⟩
  · exact h
theorem Bd.claim {m n : Nat} {x : Nd} (h : Bd m n x) (hn : n ≤ 8) (t : Int) (o : Bool) : Bd (m + 8) n (x.claim t o n) := by
  unfold Nd.claim
  split
  · exact h.more (by omega)
  next hh =>
  have hq : ¬ (t < x.term ∨ 1073741824 < t) := by
    intro hb
    apply hh
    unfold Nd.claimE
    split
    · decide
    · decide
  have := h.t0
  have := h.s1
  have := h.s0
  split
  · exact Bd.told (x := { x with term := t, role := 4, ticks := 0, lead := x.self }) ⟨h.xn, h.s0, h.s1, h.w0, h.w1, by show 0 ≤ t; omega, by show t ≤ _; omega, h.wl, by show -1 ≤ x.self; omega, h.s1, by simp, by simp, fun e => rfl⟩ hn
  · exact ⟨h.xn, h.s0, h.s1, h.w0, h.w1, by show 0 ≤ t; omega, by show t ≤ _; omega, Nat.le_trans h.wl (by omega), by simp, by show (-1 : Int) < n; omega, by simp, by simp, fun e => by simp at e⟩
theorem Bd.outed {m n : Nat} {x : Nd} (h : Bd m n x) : Bd 0 n x.outed := ⟨h.xn, h.s0, h.s1, h.w0, h.w1, h.t0, h.t1, by simp [Nd.outed], h.l0, h.l1, h.r0, h.r1, h.ld⟩
/-- The ticks of a role are not many. -/
def Tk (i : Nat) (x : Nd) : Prop := 0 ≤ x.ticks ∧ x.ticks ≤ i
theorem Tk.more {i j : Nat} {x : Nd} (h : Tk i x) (hj : i ≤ j) : Tk j x := ⟨h.1, by have := h.2; omega⟩
theorem Tk.ask (i : Nat) (x : Nd) : Tk i x.ask := by unfold Tk; obtain ⟨e1, e2, e3, e4, e5, e6, e7⟩ := x.ask_parts; omega
theorem Tk.tick {i n : Nat} {x : Nd} (h : Tk i x) (b a : Bool) : Tk (i + 1) (x.tick n b a) := by
  have := h.1
  have := h.2
  unfold Nd.tick
  split
  · exact ⟨by show 0 ≤ x.ticks + 1; omega, by show x.ticks + 1 ≤ _; omega⟩
  split
  · exact Tk.ask _ _
  split
  · exact ⟨by simp [Nd.turn], by simp [Nd.turn]; omega⟩
  split
  · exact Tk.ask _ _
  · exact ⟨by show 0 ≤ x.ticks + 1; omega, by show x.ticks + 1 ≤ _; omega⟩
theorem Tk.rtick {i n : Nat} {x : Nd} (h : Tk i x) (b a : Bool) : Tk (i + 1) (x.rtick n b a) := by
  have := h.1
  have := h.2
  have h1 : 0 ≤ x.ticks + 1 ∧ x.ticks + 1 ≤ (i + 1 : Nat) := ⟨by omega, by omega⟩
  unfold Nd.rtick
  split
  · exact h.more (by omega)
  split
  · exact Tk.ask _ _
  split
  · split
    · exact h1
    · exact h1
  split
  · split
    · exact Tk.ask _ _
    · exact h1
  · exact h.more (by omega)
theorem Tk.take {i : Nat} {x : Nd} (h : Tk i x) (y : Wd) : Tk i (x.take y) := by
  unfold Nd.take
  split
  · split
    · exact h
    · split
      · exact Tk.ask _ _
      · exact h
  · split
    · split
      · exact ⟨by simp [Nd.turn], by simp [Nd.turn]⟩
      · exact h
    · split
      · exact ⟨by simp [Nd.turn], by simp [Nd.turn]⟩
      · exact h
theorem Tk.rtake {i : Nat} {x : Nd} (h : Tk i x) (y : Wd) : Tk i (x.rtake y) := by
  unfold Nd.rtake
  split
  · split
    · exact h
    · split
      · exact Tk.ask _ _
      · exact h
  · split
    · split
      · exact ⟨by simp [Nd.turn], by simp [Nd.turn]⟩
      · exact h
    · split
      · exact h
      · exact h
theorem Tk.over {i : Nat} {x : Nd} (h : Tk i x) (t : Int) : Tk i (x.over t) := by
  unfold Nd.over
  split
  · exact ⟨by simp, by simp⟩
  · exact h
theorem Tk.rover {i : Nat} {x : Nd} (h : Tk i x) (t : Int) : Tk i (x.rover t) := by unfold Nd.rover; split <;> exact h
theorem Tk.claim {i n : Nat} {x : Nd} (h : Tk i x) (t : Int) (o : Bool) : Tk i (x.claim t o n) := by
  unfold Nd.claim
  split
  · exact h
  · split
    · exact ⟨by simp [Nd.told], by simp [Nd.told]⟩
    · exact ⟨by simp, by simp⟩
theorem Tk.rclaim {i n : Nat} {x : Nd} (h : Tk i x) (t : Int) (o : Bool) : Tk i (x.rclaim t o n) := by
  unfold Nd.rclaim
  split
  · exact h
  · split
    · exact h
    · exact h
/-- The term never falls. -/
theorem Nd.tick_term (x : Nd) (n : Nat) (b a : Bool) : (x.tick n b a).term = x.term := by
  have e := fun y : Nd => (y.ask_parts).2.2.2.1
  unfold Nd.tick
  split
  · rfl
  split
  · rw [e]
  split
  · rfl
  split
  · rw [e]
  · rfl
theorem Nd.take_term (x : Nd) (y : Wd) : x.term ≤ (x.take y).term := by
  have e := fun y : Nd => (y.ask_parts).2.2.2.1
  unfold Nd.take
  split
  · split
    · exact Int.le_refl _
    · split
      · rw [e]; exact Int.le_refl _
      · exact Int.le_refl _
  · split
    · split <;> exact Int.le_refl _
    · split
      · assumption
      · exact Int.le_refl _
theorem Nd.over_term (x : Nd) (t : Int) : x.term ≤ (x.over t).term := by
  unfold Nd.over
  split
  · next h => exact Int.le_of_lt h.2.1
  · exact Int.le_refl _
theorem Nd.claim_term (x : Nd) (t : Int) (o : Bool) (n : Nat) : x.term ≤ (x.claim t o n).term := by
  unfold Nd.claim
  split
  · exact Int.le_refl _
  next hh =>
  have hq : ¬ (t < x.term ∨ 1073741824 < t) := by
    intro hb
    apply hh
    unfold Nd.claimE
    split
    · decide
    · decide
  split
  · show x.term ≤ t; omega
  · show x.term ≤ t; omega
end Go.Proofs.Ytccmnphjiebiaaa
