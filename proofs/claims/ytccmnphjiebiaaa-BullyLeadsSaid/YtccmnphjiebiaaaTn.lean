/- A node of a town, step by step: what a word, a tick, a claim make of it. Plain law. Condition: the node is a good one (Gn). -/
import Derived.Test.YtccmnphjiebiaaaPw
namespace Go.Proofs.Ytccmnphjiebiaaa
open Go.RowKit
set_option linter.unusedVariables false
set_option linter.unusedSimpArgs false
/-- A node k of n, none of whose terms is above T. -/
structure Gn (n k : Nat) (T : Int) (s : PN) : Prop where
  xn : s.x.n = n
  self : s.x.self = k
  w : s.x.wait = 2
  ev : s.every = 2
  lm : s.limit = 8
  lf : s.left = 1 ∨ s.left = 2
  xl : s.xs.length = n
  xb : XB s.xs 8
  t0 : 0 ≤ s.x.term
  t1 : s.x.term ≤ T
  rr : s.x.role = 0 ∨ s.x.role = 1 ∨ s.x.role = 2 ∨ s.x.role = 3 ∨ s.x.role = 4
  r1 : s.x.role = 1 → s.x.ticks = 0 ∨ s.x.ticks = 1
  r2 : s.x.role = 2 → 0 ≤ s.x.ticks ∧ s.x.ticks ≤ 3
  r4 : s.x.role = 4 → 1 ≤ s.x.term
  ld : s.x.role = 4 → s.x.lead = k
  nl : s.x.role ≠ 4 → s.x.lead ≠ k
/-- A word that may be on its way: from a node of U, to another one. -/
def Vw (n : Nat) (U : Nat → Bool) (T : Int) (w : Wd) : Prop :=
  ∃ f t : Nat, w.f = f ∧ w.t = t ∧ f < n ∧ t < n ∧ U f = true ∧ ((w.k = 1 ∧ f < t ∧ w.m = 0) ∨ (w.k = 2 ∧ t < f ∧ w.m = 0) ∨ (w.k = 3 ∧ f ≠ t ∧ 1 ≤ w.m ∧ w.m ≤ T))
theorem Vw.more {n : Nat} {U : Nat → Bool} {T T' : Int} {w : Wd} (h : Vw n U T w) (hT : T ≤ T') : Vw n U T' w := by
  obtain ⟨f, t, h1, h2, h3, h4, h5, h6⟩ := h
  exact ⟨f, t, h1, h2, h3, h4, h5, h6.imp id (fun h => h.imp id (fun ⟨a, b, c, d⟩ => ⟨a, b, c, by omega⟩))⟩
theorem elects_mem (self f : Int) : ∀ (c : Nat) (w : Wd), w ∈ elects self f c ↔ ∃ i : Nat, i < c ∧ w = ⟨1, self, f + i, 0⟩
  | 0, w => by simp [elects]
  | c + 1, w => by
    unfold elects
    rw [List.mem_append, elects_mem self f c w]
    constructor
    · rintro (⟨i, hi, rfl⟩ | h)
      · exact ⟨i, by omega, rfl⟩
      · simp at h; exact ⟨c, by omega, h⟩
    · rintro ⟨i, hi, rfl⟩
      by_cases e : i = c
      · right; simp [e]
      · left; exact ⟨i, by omega, rfl⟩
theorem leads_mem (self term : Int) : ∀ (c : Nat) (w : Wd), w ∈ leads self term c ↔ ∃ i : Nat, i < c ∧ (i : Int) ≠ self ∧ w = ⟨3, self, i, term⟩
  | 0, w => by simp [leads]
  | c + 1, w => by
    unfold leads
    split
    next h =>
      rw [leads_mem self term c w]
      constructor
      · rintro ⟨i, hi, hn, rfl⟩; exact ⟨i, by omega, hn, rfl⟩
      · rintro ⟨i, hi, hn, rfl⟩
        have : i ≠ c := fun e => hn (by rw [e]; exact h)
        exact ⟨i, by omega, hn, rfl⟩
    next h =>
      rw [List.mem_append, leads_mem self term c w]
      constructor
      · rintro (⟨i, hi, hn, rfl⟩ | h')
        · exact ⟨i, by omega, hn, rfl⟩
        · simp at h'; exact ⟨c, by omega, h, h'⟩
      · rintro ⟨i, hi, hn, rfl⟩
        by_cases e : i = c
        · right; simp [e]
        · left; exact ⟨i, by omega, hn, rfl⟩
def ansW (k f : Nat) : Wd := ⟨2, k, f, 0⟩
def elW (f t : Nat) : Wd := ⟨1, f, t, 0⟩
def ldW (f t : Nat) (m : Int) : Wd := ⟨3, f, t, m⟩
/-- The words of Elect of node k of n. -/
def els (n k : Nat) : List Wd := elects k (k + 1) (n - 1 - k)
theorem els_mem {n k : Nat} {w : Wd} : w ∈ els n k ↔ ∃ t : Nat, k < t ∧ t < n ∧ w = elW k t := by
  unfold els
  rw [elects_mem]
  constructor
  · rintro ⟨i, hi, rfl⟩; exact ⟨k + 1 + i, by omega, by omega, by simp [elW]⟩
  · rintro ⟨t, h1, h2, rfl⟩; exact ⟨t - (k + 1), by omega, by simp [elW]; omega⟩
theorem lds_mem {n k : Nat} {m : Int} {w : Wd} : w ∈ leads k m n ↔ ∃ t : Nat, t < n ∧ t ≠ k ∧ w = ldW k t m := by
  rw [leads_mem]
  constructor
  · rintro ⟨i, hi, hn, rfl⟩; exact ⟨i, hi, by omega, rfl⟩
  · rintro ⟨t, h1, h2, rfl⟩; exact ⟨t, h1, by omega, rfl⟩
section
variable {n k : Nat} {U : Nat → Bool} {T : Int} {s : PN} {w : Wd}
theorem Gn.more {T' : Int} (g : Gn n k T s) (h : T ≤ T') : Gn n k T' s := ⟨g.xn, g.self, g.w, g.ev, g.lm, g.lf, g.xl, g.xb, g.t0, by have := g.t1; omega, g.rr, g.r1, g.r2, g.r4, g.ld, g.nl⟩
theorem Gn.chk (g : Gn n k T s) (hT : T ≤ 1073741824) (hk : k < n) (hv : Vw n U T w) (ht : w.t = k) : checkE s.x.n s.x.self w = 0 := by
  obtain ⟨f, t, h1, h2, h3, h4, h5, h6⟩ := hv
  have h7 : t = k := by omega
  subst h7
  unfold checkE
  rw [g.xn, g.self, if_neg (by omega), if_neg]
  rcases h6 with ⟨a, b, c⟩ | ⟨a, b, c⟩ | ⟨a, b, c, d⟩
  · rw [a, c]; simp
  · rw [a, c]; simp
  · have hm : 0 < w.m := by omega
    rw [a]; simp [hm]; omega
/-- What a word makes of a node. -/
theorem Gn.take_cases (g : Gn n k T s) (hT : T ≤ 1073741824) (hk : k < n) (hv : Vw n U T w) (ht : w.t = k) :
    ∃ f : Nat, f < n ∧ f ≠ k ∧ U f = true ∧
    ((w = elW f k ∧ f < k ∧ ((s.x.role ≠ 0 ∧ s.take w = { s with x := { s.x with ws := s.x.ws ++ [ansW k f] }, xs := heardR s.xs f }) ∨
        (s.x.role = 0 ∧ k + 1 < n ∧ s.take w = { s with x := { s.x with role := 1, ticks := 0, ws := s.x.ws ++ [ansW k f] ++ els n k }, xs := heardR s.xs f }) ∨
        (s.x.role = 0 ∧ k + 1 = n ∧ s.take w = { s with x := { s.x with role := 3, ticks := 0, ws := s.x.ws ++ [ansW k f] }, xs := heardR s.xs f }))) ∨
     (w = ansW f k ∧ k < f ∧ ((s.x.role = 1 ∧ s.take w = { s with x := { s.x with role := 2, ticks := 0 }, xs := heardR s.xs f }) ∨ (s.x.role ≠ 1 ∧ s.take w = { s with xs := heardR s.xs f }))) ∨
     (∃ m, w = ldW f k m ∧ 1 ≤ m ∧ m ≤ T ∧ ((s.x.term ≤ m ∧ s.take w = { s with x := { s.x with role := 0, ticks := 0, term := m, lead := f }, xs := heardR s.xs f }) ∨ (m < s.x.term ∧ s.take w = { s with xs := heardR s.xs f })))) := by
  have hc := g.chk hT hk hv ht
  obtain ⟨f, t, h1, h2, h3, h4, h5, h6⟩ := hv
  have h7 : t = k := by omega
  subst h7
  have hs := g.self
  have hn := g.xn
  obtain ⟨wk, wf, wt, wm⟩ := w
  simp only at h1 h2 h6 ht
  subst h1 h2
  refine ⟨f, h3, by rcases h6 with h | h | h <;> omega, h5, ?_⟩
  unfold PN.take
  rw [if_pos hc]
  unfold Nd.take
  rcases h6 with ⟨rfl, b, rfl⟩ | ⟨rfl, b, rfl⟩ | ⟨rfl, b, c, d⟩
  · left
    refine ⟨rfl, b, ?_⟩
    simp only [if_true]
    rw [if_neg (by rw [hs]; omega)]
    by_cases h0 : s.x.role = 0
    · right
      rw [if_pos h0]
      unfold Nd.ask
      by_cases hl : t + 1 = n
      · right
        refine ⟨h0, hl, ?_⟩
        rw [if_pos (by simp only [Nd.say]; rw [hs, hn]; omega)]
        simp [Nd.turn, Nd.say, ansW, hs]
      · left
        refine ⟨h0, by omega, ?_⟩
        rw [if_neg (by simp only [Nd.say]; rw [hs, hn]; omega)]
        have e : ((n : Int) - 1 - (t : Int)).toNat = n - 1 - t := by omega
        simp [Nd.asked, Nd.say, ansW, hs, hn, e, els]
    · left
      refine ⟨h0, ?_⟩
      rw [if_neg h0]
      simp [Nd.say, ansW, hs]
  · right; left
    refine ⟨rfl, b, ?_⟩
    rw [if_neg (by simp), if_pos rfl]
    by_cases h1 : s.x.role = 1
    · left; refine ⟨h1, ?_⟩; rw [if_pos h1]; rfl
    · right; refine ⟨h1, ?_⟩; rw [if_neg h1]
  · right; right
    refine ⟨wm, rfl, c, d, ?_⟩
    rw [if_neg (by simp), if_neg (by simp)]
    by_cases h1 : s.x.term ≤ wm
    · left; refine ⟨h1, ?_⟩; rw [if_pos h1]; rfl
    · right; refine ⟨by omega, ?_⟩; rw [if_neg h1]
theorem XB.heard8 {xs : List Int} (h : XB xs 8) (k : Int) : XB (heardR xs k) 8 := h.heard (by omega) k
theorem heard_len (xs : List Int) (k : Int) : (heardR xs k).length = xs.length := by unfold heardR; split <;> simp
theorem Gn.take (g : Gn n k T s) (hT : T ≤ 1073741824) (hk : k < n) (hv : Vw n U T w) (ht : w.t = k) : Gn n k T (s.take w) := by
  obtain ⟨f, hf, hfk, -, hh⟩ := g.take_cases hT hk hv ht
  have g1 := g.t0
  have g2 := g.t1
  have gx := g.xb.heard8 f
  have gl : (heardR s.xs f).length = n := by rw [heard_len]; exact g.xl
  rcases hh with ⟨-, -, ⟨h0, e⟩ | ⟨h0, -, e⟩ | ⟨h0, -, e⟩⟩ | ⟨-, -, ⟨h0, e⟩ | ⟨h0, e⟩⟩ | ⟨m, -, hm1, hm2, ⟨h0, e⟩ | ⟨h0, e⟩⟩ <;> rw [e]
  · exact ⟨g.xn, g.self, g.w, g.ev, g.lm, g.lf, gl, gx, g.t0, g.t1, g.rr, g.r1, g.r2, g.r4, g.ld, g.nl⟩
  · exact ⟨g.xn, g.self, g.w, g.ev, g.lm, g.lf, gl, gx, g.t0, g.t1, by simp, by simp, by simp, by simp, by simp, fun _ => g.nl (by omega)⟩
  · exact ⟨g.xn, g.self, g.w, g.ev, g.lm, g.lf, gl, gx, g.t0, g.t1, by simp, by simp, by simp, by simp, by simp, fun _ => g.nl (by omega)⟩
  · exact ⟨g.xn, g.self, g.w, g.ev, g.lm, g.lf, gl, gx, g.t0, g.t1, by simp, by simp, by simp, by simp, by simp, fun _ => g.nl (by omega)⟩
  · exact ⟨g.xn, g.self, g.w, g.ev, g.lm, g.lf, gl, gx, g.t0, g.t1, g.rr, g.r1, g.r2, g.r4, g.ld, g.nl⟩
  · exact ⟨g.xn, g.self, g.w, g.ev, g.lm, g.lf, gl, gx, by show 0 ≤ m; omega, by show m ≤ T; omega, by simp, by simp, by simp, by simp, by simp, fun _ => by show (f : Int) ≠ k; omega⟩
  · exact ⟨g.xn, g.self, g.w, g.ev, g.lm, g.lf, gl, gx, g.t0, g.t1, g.rr, g.r1, g.r2, g.r4, g.ld, g.nl⟩
/-- The new words that a word makes. -/
theorem Gn.take_new (g : Gn n k T s) (hT : T ≤ 1073741824) (hk : k < n) (hv : Vw n U T w) (ht : w.t = k) :
    ∃ nw, (s.take w).x.ws = s.x.ws ++ nw ∧ nw.length ≤ n ∧ ∀ y ∈ nw, (∃ f : Nat, w = elW f k ∧ f < k ∧ f < n ∧ y = ansW k f) ∨ (∃ f t : Nat, w = elW f k ∧ f < k ∧ k < t ∧ t < n ∧ y = elW k t) := by
  obtain ⟨f, hf, hfk, -, hh⟩ := g.take_cases hT hk hv ht
  rcases hh with ⟨hw, hlt, ⟨h0, e⟩ | ⟨h0, -, e⟩ | ⟨h0, -, e⟩⟩ | ⟨-, -, ⟨h0, e⟩ | ⟨h0, e⟩⟩ | ⟨m, -, hm1, hm2, ⟨h0, e⟩ | ⟨h0, e⟩⟩ <;> rw [e]
  · exact ⟨[ansW k f], rfl, by simp; omega, fun y hy => .inl ⟨f, hw, hlt, hf, by simpa using hy⟩⟩
  · refine ⟨[ansW k f] ++ els n k, by simp, by simp [els, elects_len]; omega, fun y hy => ?_⟩
    rcases List.mem_append.1 hy with hy | hy
    · exact .inl ⟨f, hw, hlt, hf, by simpa using hy⟩
    · obtain ⟨t, h1, h2, h3⟩ := els_mem.1 hy
      exact .inr ⟨f, t, hw, hlt, h1, h2, h3⟩
  · exact ⟨[ansW k f], rfl, by simp; omega, fun y hy => .inl ⟨f, hw, hlt, hf, by simpa using hy⟩⟩
  · exact ⟨[], by simp, by simp, by simp⟩
  · exact ⟨[], by simp, by simp, by simp⟩
  · exact ⟨[], by simp, by simp, by simp⟩
  · exact ⟨[], by simp, by simp, by simp⟩
/-- What a claim makes of a node that wants one; T is the log's term. -/
def claimT (T : Int) (s : PN) : Int := if T < s.x.term + 1 then s.x.term + 1 else T
def PN.claims (n : Nat) (T : Int) (s : PN) : PN := s.claim (claimT T s) (decide (T < s.x.term + 1)) n
theorem Gn.claims_cases (g : Gn n k T s) (hT : T + 1 ≤ 1073741824) (h3 : s.x.role = 3) :
    (s.x.term = T ∧ claimT T s = T + 1 ∧ s.claims n T = { s with x := { s.x with term := T + 1, role := 4, ticks := 0, lead := k, ws := s.x.ws ++ leads k (T + 1) n } }) ∨
    (s.x.term < T ∧ claimT T s = T ∧ s.claims n T = { s with x := { s.x with term := T, role := 0, ticks := 0, lead := -1 } }) := by
  have h1 := g.t1
  have h0 := g.t0
  by_cases e : s.x.term = T
  · left
    have ec : claimT T s = T + 1 := by unfold claimT; rw [if_pos (by omega)]; omega
    have hd : decide (T < s.x.term + 1) = true := by simp; omega
    refine ⟨e, ec, ?_⟩
    unfold PN.claims PN.claim Nd.claim
    have hE : s.x.claimE (T + 1) = 0 := by unfold Nd.claimE; rw [if_neg (by omega), if_neg (by omega)]
    rw [ec, hd, if_neg (by rw [hE]; simp)]
    simp [Nd.told, g.self]
  · right
    have ec : claimT T s = T := by unfold claimT; rw [if_neg (by omega)]
    have hd : decide (T < s.x.term + 1) = false := by simp; omega
    refine ⟨by omega, ec, ?_⟩
    unfold PN.claims PN.claim Nd.claim
    have hE : s.x.claimE T = 0 := by unfold Nd.claimE; rw [if_neg (by omega), if_neg (by omega)]
    rw [ec, hd, if_neg (by rw [hE]; simp)]
    simp
theorem Gn.claims (g : Gn n k T s) (hT : T + 1 ≤ 1073741824) (h0 : 0 ≤ T) (h3 : s.x.role = 3) : Gn n k (claimT T s) (s.claims n T) := by
  rcases g.claims_cases hT h3 with ⟨e, ec, h⟩ | ⟨e, ec, h⟩
  · rw [ec, h]
    exact ⟨g.xn, g.self, g.w, g.ev, g.lm, g.lf, g.xl, g.xb, by show 0 ≤ T + 1; omega, by simp, by simp, by simp, by simp, fun _ => by show 1 ≤ T + 1; omega, by simp, by simp⟩
  · rw [ec, h]
    exact ⟨g.xn, g.self, g.w, g.ev, g.lm, g.lf, g.xl, g.xb, h0, by simp, by simp, by simp, by simp, by simp, by simp, fun _ => by show (-1 : Int) ≠ k; omega⟩
theorem Gn.out (g : Gn n k T s) : Gn n k T s.out := ⟨g.xn, g.self, g.w, g.ev, g.lm, g.lf, g.xl, g.xb, g.t0, g.t1, g.rr, g.r1, g.r2, g.r4, g.ld, g.nl⟩
theorem tickL_len (me limit : Int) (xs : List Int) : (tickL me limit xs).length = xs.length := by unfold tickL; rw [tickN_len]
/-- Whether a node takes whom it follows for alive, at the next tick. -/
def PN.alive (s : PN) : Bool := aliveB (tickL s.x.self s.limit s.xs) s.limit s.x.lead
/-- What a tick makes of a node. -/
theorem Gn.tick_cases (g : Gn n k T s) (hk : k < n) (h3 : s.x.role ≠ 3) :
    (s.x.role = 4 ∧ s.left = 1 ∧ s.tick n = { s with x := { s.x with ticks := s.x.ticks + 1, ws := s.x.ws ++ leads k s.x.term n }, xs := tickL k 8 s.xs, left := 2 }) ∨
    (s.x.role = 4 ∧ s.left = 2 ∧ s.tick n = { s with x := { s.x with ticks := s.x.ticks + 1 }, xs := tickL k 8 s.xs, left := 1 }) ∨
    (∃ l, (l = 1 ∨ l = 2) ∧ l = tickLeft 2 s.left ∧
      ((s.x.role = 0 ∧ s.alive = true ∧ s.tick n = { s with x := { s.x with ticks := s.x.ticks + 1 }, xs := tickL k 8 s.xs, left := l }) ∨
       (((s.x.role = 0 ∧ s.alive = false) ∨ (s.x.role = 2 ∧ s.x.ticks = 3)) ∧
         ((k + 1 < n ∧ s.tick n = { s with x := { s.x with role := 1, ticks := 0, ws := s.x.ws ++ els n k }, xs := tickL k 8 s.xs, left := l }) ∨
          (k + 1 = n ∧ s.tick n = { s with x := { s.x with role := 3, ticks := 0 }, xs := tickL k 8 s.xs, left := l }))) ∨
       (s.x.role = 1 ∧ s.x.ticks = 1 ∧ s.tick n = { s with x := { s.x with role := 3, ticks := 0 }, xs := tickL k 8 s.xs, left := l }) ∨
       (s.x.role = 1 ∧ s.x.ticks = 0 ∧ s.tick n = { s with x := { s.x with ticks := 1 }, xs := tickL k 8 s.xs, left := l }) ∨
       (s.x.role = 2 ∧ s.x.ticks ≤ 2 ∧ s.tick n = { s with x := { s.x with ticks := s.x.ticks + 1 }, xs := tickL k 8 s.xs, left := l }))) := by
  have hs := g.self
  have hn := g.xn
  have hw := g.w
  have hlm := g.lm
  have hev := g.ev
  have hask : ∀ y : Nd, y.n = n → y.self = k → (k + 1 < n ∧ y.ask = { y with role := 1, ticks := 0, ws := y.ws ++ els n k }) ∨ (k + 1 = n ∧ y.ask = { y with role := 3, ticks := 0 }) := by
    intro y h1 h2
    unfold Nd.ask
    by_cases hl : k + 1 = n
    · right; refine ⟨hl, ?_⟩; rw [if_pos (by rw [h1, h2]; omega)]; rfl
    · left; refine ⟨by omega, ?_⟩; rw [if_neg (by rw [h1, h2]; omega)]
      have e : ((n : Int) - 1 - (k : Int)).toNat = n - 1 - k := by omega
      simp [Nd.asked, h1, h2, e, els]
  have htick : s.tick n = { s with x := s.x.tick n (tickB s.left) s.alive, xs := tickL k 8 s.xs, left := tickLeft 2 s.left } := by
    unfold PN.tick PN.alive
    rw [hs, hlm, hev]
  have hl2 : tickLeft 2 s.left = 1 ∨ tickLeft 2 s.left = 2 := by
    unfold tickLeft
    rcases g.lf with h | h <;> rw [h] <;> simp
  rw [htick]
  unfold Nd.tick
  rcases g.rr with r | r | r | r | r
  · right; right
    refine ⟨tickLeft 2 s.left, hl2, rfl, ?_⟩
    rw [if_neg (by omega)]
    cases ha : s.alive
    · right; left
      rw [if_pos ⟨r, rfl⟩]
      refine ⟨.inl ⟨r, rfl⟩, ?_⟩
      rcases hask { s.x with ticks := s.x.ticks + 1 } hn hs with ⟨h1, h2⟩ | ⟨h1, h2⟩
      · left; refine ⟨h1, ?_⟩; rw [h2]
      · right; refine ⟨h1, ?_⟩; rw [h2]
    · left
      rw [if_neg (by simp), if_neg (by omega), if_neg (by omega)]
      exact ⟨r, rfl, rfl⟩
  · right; right
    refine ⟨tickLeft 2 s.left, hl2, rfl, ?_⟩
    rw [if_neg (by omega), if_neg (by omega)]
    rcases g.r1 r with h | h
    · right; right; right; left
      rw [if_neg (by omega), if_neg (by omega)]
      refine ⟨r, h, ?_⟩
      rw [h]; rfl
    · right; right; left
      rw [if_pos ⟨r, by omega⟩]
      exact ⟨r, h, rfl⟩
  · right; right
    refine ⟨tickLeft 2 s.left, hl2, rfl, ?_⟩
    rw [if_neg (by omega), if_neg (by omega), if_neg (by omega)]
    by_cases h : s.x.ticks = 3
    · right; left
      rw [if_pos ⟨r, by omega⟩]
      refine ⟨.inr ⟨r, h⟩, ?_⟩
      rcases hask { s.x with ticks := s.x.ticks + 1 } hn hs with ⟨h1, h2⟩ | ⟨h1, h2⟩
      · left; refine ⟨h1, ?_⟩; rw [h2]
      · right; refine ⟨h1, ?_⟩; rw [h2]
    · right; right; right; right
      rw [if_neg (by omega)]
      exact ⟨r, by have := (g.r2 r).2; omega, rfl⟩
  · exact absurd r h3
  · rcases g.lf with h | h
    · left
      refine ⟨r, h, ?_⟩
      rw [h, if_pos ⟨r, by decide⟩]
      simp [Nd.told, hs, tickLeft]
    · right; left
      refine ⟨r, h, ?_⟩
      rw [h, if_neg (by simp [tickB]), if_neg (by omega), if_neg (by omega), if_neg (by omega)]
      simp [tickLeft]
theorem Gn.tick (g : Gn n k T s) (hk : k < n) (h3 : s.x.role ≠ 3) : Gn n k T (s.tick n) := by
  have gx : XB (tickL k 8 s.xs) 8 := g.xb.tick (by omega) _
  have gl : (tickL k 8 s.xs).length = n := by rw [tickL_len]; exact g.xl
  rcases g.tick_cases hk h3 with ⟨r, h, e⟩ | ⟨r, h, e⟩ | ⟨l, hl, -, ⟨r, h, e⟩ | ⟨hr, ⟨-, e⟩ | ⟨-, e⟩⟩ | ⟨r, h, e⟩ | ⟨r, h, e⟩ | ⟨r, h, e⟩⟩ <;> rw [e]
  · exact ⟨g.xn, g.self, g.w, g.ev, g.lm, .inr rfl, gl, gx, g.t0, g.t1, g.rr, fun h => by simp only at h; omega, fun h => by simp only at h; omega, g.r4, g.ld, g.nl⟩
  · exact ⟨g.xn, g.self, g.w, g.ev, g.lm, .inl rfl, gl, gx, g.t0, g.t1, g.rr, fun h => by simp only at h; omega, fun h => by simp only at h; omega, g.r4, g.ld, g.nl⟩
  · exact ⟨g.xn, g.self, g.w, g.ev, g.lm, hl, gl, gx, g.t0, g.t1, g.rr, fun h => by simp only at h; omega, fun h => by simp only at h; omega, g.r4, g.ld, g.nl⟩
  · exact ⟨g.xn, g.self, g.w, g.ev, g.lm, hl, gl, gx, g.t0, g.t1, by simp, by simp, by simp, by simp, by simp, fun _ => g.nl (by omega)⟩
  · exact ⟨g.xn, g.self, g.w, g.ev, g.lm, hl, gl, gx, g.t0, g.t1, by simp, by simp, by simp, by simp, by simp, fun _ => g.nl (by omega)⟩
  · exact ⟨g.xn, g.self, g.w, g.ev, g.lm, hl, gl, gx, g.t0, g.t1, by simp, by simp, by simp, by simp, by simp, fun _ => g.nl (by omega)⟩
  · exact ⟨g.xn, g.self, g.w, g.ev, g.lm, hl, gl, gx, g.t0, g.t1, g.rr, fun h => .inr rfl, fun h => by simp only at h; omega, g.r4, g.ld, g.nl⟩
  · exact ⟨g.xn, g.self, g.w, g.ev, g.lm, hl, gl, gx, g.t0, g.t1, g.rr, fun h => by simp only at h; omega, fun _ => by have := (g.r2 r).1; exact ⟨by show 0 ≤ s.x.ticks + 1; omega, by show s.x.ticks + 1 ≤ 3; omega⟩, g.r4, g.ld, g.nl⟩
theorem over_cases (g : Gn n k T s) (hT : T ≤ 1073741824) : (s.x.role = 4 ∧ s.x.term < T ∧ s.over T = { s with x := { s.x with term := T, lead := -1, role := 0, ticks := 0 } }) ∨ (¬ (s.x.role = 4 ∧ s.x.term < T) ∧ s.over T = s) := by
  unfold PN.over Nd.over
  by_cases h : s.x.role = 4 ∧ s.x.term < T
  · left; rw [if_pos ⟨h.1, h.2, hT⟩]; exact ⟨h.1, h.2, rfl⟩
  · right; rw [if_neg (fun hh => h ⟨hh.1, hh.2.1⟩)]; exact ⟨h, rfl⟩
theorem Gn.over (g : Gn n k T s) (hT : T ≤ 1073741824) (h0 : 0 ≤ T) : Gn n k T (s.over T) := by
  rcases over_cases g hT with ⟨-, -, e⟩ | ⟨-, e⟩ <;> rw [e]
  · exact ⟨g.xn, g.self, g.w, g.ev, g.lm, g.lf, g.xl, g.xb, h0, by simp, by simp, by simp, by simp, by simp, by simp, fun _ => by show (-1 : Int) ≠ k; omega⟩
  · exact g
end
end Go.Proofs.Ytccmnphjiebiaaa
