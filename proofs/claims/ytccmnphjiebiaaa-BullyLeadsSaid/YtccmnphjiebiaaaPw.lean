/- A node in new memory, and two nodes side by side: their acts. Conditions: the bounds of PI. -/
import Derived.Test.YtccmnphjiebiaaaBoth
namespace Go.Proofs.Ytccmnphjiebiaaa
open Go.RowKit
set_option linter.unusedVariables false
set_option linter.unusedSimpArgs false
structure PW (W w : World) (P D S : Nat) (v : Value) (s : PN) : Prop where
  p : PAt w P D S v s
  b : Below W.heap.size W w
  f : ∀ c ∈ fp P D S v, W.heap.size ≤ c
structure XB (xs : List Int) (limit : Int) : Prop where
  bd : ∀ (i : Nat) (x : Int), xs[i]? = some x → 0 ≤ x ∧ x ≤ limit
theorem XB.small {xs : List Int} {limit : Int} (h : XB xs limit) (hl : limit ≤ 1000) : ∀ i (hi : i < xs.length), 0 ≤ xs[i] ∧ xs[i] ≤ 1000000 := by
  intro i hi
  have := h.bd i xs[i] (List.getElem?_eq_getElem hi)
  omega
theorem XB.tick {xs : List Int} {limit : Int} (h : XB xs limit) (hl : 0 ≤ limit) (me : Int) : XB (tickL me limit xs) limit := by
  refine ⟨fun i x hx => ?_⟩
  rw [tickL_get] at hx
  cases e : xs[i]? with
  | none => rw [e] at hx; cases hx
  | some y =>
    rw [e] at hx
    simp only [Option.map_some, Option.some.injEq] at hx
    have := h.bd i y e
    subst hx
    split
    · split <;> omega
    · omega
theorem XB.heard {xs : List Int} {limit : Int} (h : XB xs limit) (hl : 0 ≤ limit) (k : Int) : XB (heardR xs k) limit := by
  unfold heardR
  split
  · refine ⟨fun i x hx => ?_⟩
    rw [List.getElem?_set] at hx
    split at hx
    · split at hx
      · cases hx; omega
      · cases hx
    · exact h.bd i x hx
  · exact h
structure PI (i m n : Nat) (s : PN) : Prop where
  bd : Bd m n s.x
  tk : Tk i s.x
  xb : XB s.xs s.limit
  l0 : 1 ≤ s.limit
  l1 : s.limit ≤ 1000
  f0 : 0 ≤ s.left
  f1 : s.left ≤ 100
  e0 : 1 ≤ s.every
  e1 : s.every ≤ 100
  n8 : n ≤ 8
theorem PI.more {i i' m m' n : Nat} {s : PN} (q : PI i m n s) (h : i ≤ i') (h' : m ≤ m') : PI i' m' n s := ⟨q.bd.more h', q.tk.more h, q.xb, q.l0, q.l1, q.f0, q.f1, q.e0, q.e1, q.n8⟩
theorem PI.tick {i m n : Nat} {s : PN} (q : PI i m n s) : PI (i + 1) (m + 16) n (s.tick n) :=
  ⟨q.bd.tick q.n8 _ _, q.tk.tick _ _, q.xb.tick (by have := q.l0; omega) _, q.l0, q.l1, by have := q.f0; have := q.e0; simp only [PN.tick, tickLeft]; split <;> omega, by have := q.f1; have := q.e1; simp only [PN.tick, tickLeft]; split <;> omega, q.e0, q.e1, q.n8⟩
theorem PI.take {i m n : Nat} {s : PN} (q : PI i m n s) (y : Wd) : PI i (m + 16) n (s.take y) := by
  unfold PN.take
  split
  · next h => exact ⟨q.bd.take q.n8 y h, q.tk.take y, q.xb.heard (by have := q.l0; show (0 : Int) ≤ s.limit; omega) _, q.l0, q.l1, q.f0, q.f1, q.e0, q.e1, q.n8⟩
  · exact q.more (Nat.le_refl _) (by omega)
theorem PI.over {i m n : Nat} {s : PN} (q : PI i m n s) (t : Int) : PI i m n (s.over t) := ⟨q.bd.over t, q.tk.over t, q.xb, q.l0, q.l1, q.f0, q.f1, q.e0, q.e1, q.n8⟩
theorem PI.claim {i m n : Nat} {s : PN} (q : PI i m n s) (t : Int) (o : Bool) : PI i (m + 8) n (s.claim t o n) := ⟨q.bd.claim q.n8 t o, q.tk.claim t o, q.xb, q.l0, q.l1, q.f0, q.f1, q.e0, q.e1, q.n8⟩
theorem PI.out {i m n : Nat} {s : PN} (q : PI i m n s) : PI i 0 n s.out := ⟨q.bd.outed, q.tk, q.xb, q.l0, q.l1, q.f0, q.f1, q.e0, q.e1, q.n8⟩
theorem PI.new (n : Nat) (self wait : Int) (every : Int) (h : nodeB n self wait every = true) : PI 0 0 n (PN.new n self wait every) := by
  have hn : (1 ≤ (n : Int) ∧ (n : Int) ≤ 8 ∧ 0 ≤ self ∧ self < n ∧ 1 ≤ wait ∧ wait ≤ 100 ∧ 1 ≤ (every : Int) ∧ (every : Int) ≤ 100) := by simpa only [nodeB, decide_eq_true_iff] using h
  obtain ⟨h0, h1, h2, h3, h4, h5, h6, h7⟩ := hn
  refine ⟨⟨rfl, h2, h3, h4, h5, by simp [PN.new], by simp [PN.new], by simp [PN.new], by simp [PN.new], by simp [PN.new]; omega, by simp [PN.new], by simp [PN.new], fun e => by simp [PN.new] at e⟩, ⟨by simp [PN.new], by simp [PN.new]⟩, ⟨fun i x hx => ?_⟩, by simp [PN.new]; omega, by simp [PN.new]; omega, by simp [PN.new]; omega, by simp [PN.new]; omega, h6, h7, by omega⟩
  simp only [PN.new] at hx ⊢
  rw [List.getElem?_replicate] at hx
  split at hx
  · cases hx; omega
  · cases hx
section
variable {W w w' : World} {P D S n i m : Nat} {v u : Value} {s s' : PN}
theorem PW.step (h : PW W w P D S v s) (hp : PAt w' P D S u s') (st : Stp (fp P D S v) (fp P D S u) w w') : PW W w' P D S u s' :=
  ⟨hp, h.b.trans (st.keep.toBelow h.f h.b.size), fun c hc => (st.new c hc).elim (h.f c) (fun hh => Nat.le_trans h.b.size hh)⟩
theorem PW.below (h : PW W w P D S v s) (hb : Below w.heap.size w w') : PW W w' P D S v s := ⟨h.p.kept (Kept.of_below (F := []) hb) (fun _ _ hh => (by cases hh)), below_of h.b hb, h.f⟩
theorem PW.drewN (h : PW W w P D S v s) (k : Nat) : PW W (w.drewN k) P D S v s := ⟨h.p.drewN k, below_drewN h.b k, h.f⟩
theorem PW.drew (h : PW W w P D S v s) : PW W w.drew P D S v s := h.drewN 1
theorem PW.tick (h : PW W w P D S v s) (q : PI i m n s) (hi : i ≤ 800000) (hm : m ≤ 1000000) : Calls Try.prog 8 #[ptr P] w fun e w' => e = .returned (.tuple #[]) ∧ ∃ u, PW W w' P D S u (s.tick n) :=
  (ntick_any h.p q.bd.xn (q.xb.small q.l1) (by have := q.f0; omega) (by have := q.f1; omega) q.tk.1 (by have := q.tk.2; omega) q.bd.w0 q.bd.w1 q.bd.s0 q.bd.s1 q.n8 (by have := q.bd.wl; omega)).mono
    fun _ _ ⟨he, u, hp, st⟩ => ⟨he, u, h.step hp st⟩
theorem PW.take (h : PW W w P D S v s) (q : PI i m n s) (hm : m ≤ 1000000) (k f t x c : Int) (hc : checkE s.x.n s.x.self ⟨k, f, t, x⟩ = c) : Calls Try.prog 10 #[ptr P, .agg #[.int .i64 k, .int .i64 f, .int .i64 t, .int .i64 x]] w fun e w' => e = .returned (.int .i64 c) ∧ ∃ u, PW W w' P D S u (s.take ⟨k, f, t, x⟩) :=
  (ntake_any h.p q.bd.xn ⟨k, f, t, x⟩ q.bd.s0 q.bd.s1 q.n8 (by have := q.bd.wl; omega)).mono fun _ _ ⟨he, u, hp, st⟩ => ⟨hc ▸ he, u, h.step hp st⟩
theorem PW.over (h : PW W w P D S v s) (t : Int) : Calls Try.prog 17 #[ptr P, .int .i64 t] w fun e w' => e = .returned (.tuple #[]) ∧ ∃ u, PW W w' P D S u (s.over t) :=
  (pover h.p t).mono fun _ _ ⟨he, u, hp, st⟩ => ⟨he, u, h.step hp st⟩
theorem PW.claim (h : PW W w P D S v s) (q : PI i m n s) (hm : m ≤ 1000000) (t : Int) (o : Bool) (c : Int) (hc : s.x.claimE t = c) : Calls Try.prog 19 #[ptr P, .int .i64 t, .bool o] w fun e w' => e = .returned (.int .i64 c) ∧ ∃ u, PW W w' P D S u (s.claim t o n) :=
  (pclaim h.p q.bd.xn q.n8 (by have := q.bd.wl; omega) t o).mono fun _ _ ⟨he, u, hp, st⟩ => ⟨hc ▸ he, u, h.step hp st⟩
theorem PW.out (h : PW W w P D S v s) : Calls Try.prog 15 #[ptr P] w fun e w' => e = .returned v ∧ PW W w' P D S (.slice none 0 0) s.out ∧ WIn w' v s.x.ws ∧ (∀ b ∈ own v, b < w'.heap.size) ∧ (∀ b ∈ own v, W.heap.size ≤ b) ∧ (∀ b ∈ own v, b ∉ fp P D S (.slice none 0 0)) :=
  (pout h.p).mono fun _ _ ⟨he, hp, hw, st, hl⟩ => ⟨he, h.step hp st, hw, hl, fun b hb => h.f b (by simp [fp, hb]), fun b hb hm => by
    simp only [fp, own_none, List.mem_cons, List.not_mem_nil, or_false] at hm
    rcases hm with rfl | rfl | rfl
    · exact h.p.nd.nP hb
    · exact h.p.nD (List.mem_cons_of_mem _ hb)
    · exact h.p.nS (List.mem_cons_of_mem _ hb)⟩
theorem PW.wants (h : PW W w P D S v s) (q : PI i m n s) (a : Int) (b : Bool) (he : s.x.wants = (a, b)) : Calls Try.prog 21 #[ptr P] w fun e w' => e = .returned (.tuple #[.int .i64 a, .bool b]) ∧ w' = w := by
  have := pwants h.p q.bd.t0 (by have := q.bd.t1; omega)
  rw [he] at this
  exact this
theorem PW.state (h : PW W w P D S v s) (a b c : Int) (ha : s.x.role = a) (hb : s.x.lead = b) (hc : s.x.term = c) : Calls Try.prog 23 #[ptr P] w fun e w' => e = .returned (.tuple #[.int .i64 a, .int .i64 b, .int .i64 c]) ∧ w' = w.drew := by
  subst ha hb hc
  exact pstate h.p
end
/-- A new node in new memory. -/
theorem PW.born (n : Nat) (self wait every : Int) (w : World) (h : nodeB n self wait every = true) :
    Calls Try.prog 6 #[.int .i64 n, .int .i64 self, .int .i64 wait, .int .i64 every] w fun e w' => ∃ P D S, e = .returned (.tuple #[ptr P, .int .i64 0]) ∧ PW w w' P D S (.slice none 0 0) (PN.new n self wait every) :=
  (born_yes n self wait every w h).mono fun _ _ ⟨P, D, S, he, hp, hb, hf⟩ => ⟨P, D, S, he, hp, hb, hf⟩
end Go.Proofs.Ytccmnphjiebiaaa
