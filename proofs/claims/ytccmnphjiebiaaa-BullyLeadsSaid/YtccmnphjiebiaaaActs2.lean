/- The small acts of a node with its detector. Conditions: the node and its detector lie whole in memory. -/
import Derived.Test.YtccmnphjiebiaaaNtick
import Derived.Test.YtccmnphjiebiaaaRntick
import Derived.Test.YtccmnphjiebiaaaNtake
import Derived.Test.YtccmnphjiebiaaaRtake
import Derived.Test.YtccmnphjiebiaaaBorn
import Derived.Test.YtccmnphjiebiaaaOps
namespace Go.Proofs.Ytccmnphjiebiaaa
open Go.RowKit
set_option linter.unusedVariables false
set_option linter.unusedSimpArgs false
theorem Nd.over_self (x : Nd) (t : Int) : (x.over t).self = x.self := by unfold Nd.over; split <;> rfl
theorem Nd.rover_self (x : Nd) (t : Int) : (x.rover t).self = x.self := by unfold Nd.rover; split <;> rfl
theorem Nd.claim_self (x : Nd) (t : Int) (o : Bool) (n : Nat) : (x.claim t o n).self = x.self := by
  unfold Nd.claim
  split
  · rfl
  · split <;> rfl
theorem Nd.rclaim_self (x : Nd) (t : Int) (o : Bool) (n : Nat) : (x.rclaim t o n).self = x.self := by
  unfold Nd.rclaim
  split
  · rfl
  · split <;> rfl
def PN.over (s : PN) (t : Int) : PN := { s with x := s.x.over t }
def RN.over (s : RN) (t : Int) : RN := { s with x := s.x.rover t }
def PN.claim (s : PN) (t : Int) (o : Bool) (n : Nat) : PN := { s with x := s.x.claim t o n }
def RN.claim (s : RN) (t : Int) (o : Bool) (n : Nat) : RN := { s with x := s.x.rclaim t o n }
def PN.out (s : PN) : PN := { s with x := s.x.outed }
def RN.out (s : RN) : RN := { s with x := s.x.outed }
section
variable {w : World} {P D S n : Nat} {v : Value}
theorem pover {s : PN} (h : PAt w P D S v s) (t : Int) : Calls Try.prog 17 #[ptr P, .int .i64 t] w fun e w' => e = .returned (.tuple #[]) ∧ ∃ u, PAt w' P D S u (s.over t) ∧ Stp (fp P D S v) (fp P D S u) w w' :=
  (over_any h.nd t).mono fun _ _ ⟨he, hn, hm⟩ => ⟨he, v, h.node hn hm (Nd.over_self _ _), hm.stp⟩
theorem rpover {s : RN} (h : RAt w P D v n s) (t : Int) : Calls Try.prog 18 #[ptr P, .int .i64 t] w fun e w' => e = .returned (.tuple #[]) ∧ ∃ u, RAt w' P D u n (s.over t) ∧ Stp (rfp P D v) (rfp P D u) w w' :=
  (rover_any h.nd t).mono fun _ _ ⟨he, hn, hm⟩ => ⟨he, v, h.node hn hm (Nd.rover_self _ _), hm.rstp⟩
theorem pclaim {s : PN} (h : PAt w P D S v s) (hn : s.x.n = n) (h8 : n ≤ 8) (hl : s.x.ws.length ≤ 1048500) (t : Int) (o : Bool) : Calls Try.prog 19 #[ptr P, .int .i64 t, .bool o] w fun e w' => e = .returned (.int .i64 (s.x.claimE t)) ∧ ∃ u, PAt w' P D S u (s.claim t o n) ∧ Stp (fp P D S v) (fp P D S u) w w' := by
  obtain ⟨⟨n0, self, wait, role, lead, term, ticks, ws⟩, xs, every, limit, left⟩ := s
  simp only at hn hl
  subst hn
  exact (claim_any h.nd h8 hl t o _ rfl).mono fun _ _ ⟨he, u, hn, hm⟩ => ⟨he, u, h.node hn hm (Nd.claim_self _ _ _ _), hm.stp⟩
theorem rpclaim {s : RN} (h : RAt w P D v n s) (hn : s.x.n = n) (h8 : n ≤ 8) (hl : s.x.ws.length ≤ 1048500) (t : Int) (o : Bool) : Calls Try.prog 20 #[ptr P, .int .i64 t, .bool o] w fun e w' => e = .returned (.int .i64 (s.x.claimE t)) ∧ ∃ u, RAt w' P D u n (s.claim t o n) ∧ Stp (rfp P D v) (rfp P D u) w w' := by
  obtain ⟨⟨n0, self, wait, role, lead, term, ticks, ws⟩, every, limit, now, ats⟩ := s
  simp only at hn hl
  subst hn
  exact (rclaim_any h.nd h8 hl t o _ rfl).mono fun _ _ ⟨he, u, hn, hm⟩ => ⟨he, u, h.node hn hm (Nd.rclaim_self _ _ _ _), hm.rstp⟩
theorem Stp.nil {F F' : List Nat} {w w' : World} {G : List Nat} (hk : Kept G w w') (hG : ∀ b ∈ G, b ∈ F) (hF : ∀ b ∈ F', b ∈ F) : Stp F F' w w' := ⟨hk.more hG, fun b hb => .inl (hF b hb)⟩
theorem pout {s : PN} (h : PAt w P D S v s) : Calls Try.prog 15 #[ptr P] w fun e w' => e = .returned v ∧ PAt w' P D S (.slice none 0 0) s.out ∧ WIn w' v s.x.ws ∧ Stp (fp P D S v) (fp P D S (.slice none 0 0)) w w' ∧ (∀ b ∈ own v, b < w'.heap.size) :=
  (out_any h.nd).mono fun _ _ ⟨he, hn, hk⟩ => by
    have hP := h.nd.nP
    refine ⟨he, ⟨hn, h.dt.kept hk (fun hm => ?_) (fun hm => ?_), fun hm => ?_, fun hm => ?_⟩, ?_, ?_, ?_⟩
    · simp at hm; subst hm; exact h.nD (by simp)
    · simp at hm; subst hm; exact h.nS (by simp)
    · simp [own_none] at hm; subst hm; exact h.nD (by simp)
    · simp [own_none] at hm; subst hm; exact h.nS (by simp)
    · exact h.nd.s.read.kept hk (own_lt h.nd.s) (fun b hb hm => by simp at hm; subst hm; exact hP hb)
    · exact Stp.nil hk (by simp [fp]) (by intro b hb; simp [fp, own_none] at hb; simp [fp]; omega)
    · exact fun b hb => Nat.lt_of_lt_of_le (own_lt h.nd.s b hb) hk.size
theorem rpout {s : RN} (h : RAt w P D v n s) : Calls Try.prog 16 #[ptr P] w fun e w' => e = .returned v ∧ RAt w' P D (.slice none 0 0) n s.out ∧ WIn w' v s.x.ws ∧ Stp (rfp P D v) (rfp P D (.slice none 0 0)) w w' ∧ (∀ b ∈ own v, b < w'.heap.size) :=
  (rout_any h.nd).mono fun _ _ ⟨he, hn, hk⟩ => by
    have hP := h.nd.nP
    refine ⟨he, ⟨hn, h.dt.kept hk (fun hm => ?_), fun hm => ?_⟩, ?_, ?_, ?_⟩
    · simp at hm; subst hm; exact h.nD (by simp)
    · simp [own_none] at hm; subst hm; exact h.nD (by simp)
    · exact h.nd.s.read.kept hk (own_lt h.nd.s) (fun b hb hm => by simp at hm; subst hm; exact hP hb)
    · exact Stp.nil hk (by simp [rfp]) (by intro b hb; simp [rfp, own_none] at hb; simp [rfp]; omega)
    · exact fun b hb => Nat.lt_of_lt_of_le (own_lt h.nd.s b hb) hk.size
theorem pwants {s : PN} (h : PAt w P D S v s) (h0 : 0 ≤ s.x.term) (h1 : s.x.term ≤ 1000000000000) : Calls Try.prog 21 #[ptr P] w fun e w' => e = .returned (.tuple #[.int .i64 s.x.wants.1, .bool s.x.wants.2]) ∧ w' = w := wants_any h.nd h0 h1
theorem rpwants {s : RN} (h : RAt w P D v n s) (h0 : 0 ≤ s.x.term) (h1 : s.x.term ≤ 1000000000000) : Calls Try.prog 22 #[ptr P] w fun e w' => e = .returned (.tuple #[.int .i64 s.x.wants.1, .bool s.x.wants.2]) ∧ w' = w := rwants_any h.nd h0 h1
theorem pstate {s : PN} (h : PAt w P D S v s) : Calls Try.prog 23 #[ptr P] w fun e w' => e = .returned (.tuple #[.int .i64 s.x.role, .int .i64 s.x.lead, .int .i64 s.x.term]) ∧ w' = w.drew := state_any h.nd
end
end Go.Proofs.Ytccmnphjiebiaaa
