/- The program's node and the reference's side by side. Conditions: fewer than two hundred steps. -/
import Derived.Test.YtccmnphjiebiaaaPw
namespace Go.Proofs.Ytccmnphjiebiaaa
open Go.RowKit G
set_option linter.unusedVariables false
set_option linter.unusedSimpArgs false
structure BW (W w : World) (P D S : Nat) (v : Value) (Q R : Nat) (u : Value) (n : Nat) (s : PN) (r : RN) : Prop where
  p : PAt w P D S v s
  r : RAt w Q R u n r
  b : Below W.heap.size W w
  f : ∀ c ∈ fp P D S v, W.heap.size ≤ c
  g : ∀ c ∈ rfp Q R u, W.heap.size ≤ c
  d : ∀ c ∈ fp P D S v, c ∉ rfp Q R u
/-- Both have gone alike for i steps. -/
structure Bo (i n : Nat) (s : PN) (r : RN) : Prop where
  q : PI i (16 * i) n s
  x : NRel s.x r.x
  y : Sync s.xs r.ats n s.x.self s.limit r.now
  tk : Tk i r.x
  e : s.every = r.every
  l : s.limit = r.limit
  lf : s.left = (r.every : Int) - ((r.now % r.every : Nat) : Int)
  nw : r.now ≤ i
section
variable {W w w' : World} {P D S Q R n i : Nat} {v u v' u' : Value} {s s' : PN} {r r' : RN}
theorem BW.stepP (h : BW W w P D S v Q R u n s r) (hp : PAt w' P D S v' s') (st : Stp (fp P D S v) (fp P D S v') w w') : BW W w' P D S v' Q R u n s' r :=
  ⟨hp, h.r.kept st.keep (fun b hb hm => h.d b hm hb), h.b.trans (st.keep.toBelow h.f h.b.size), fun c hc => (st.new c hc).elim (h.f c) (fun hh => Nat.le_trans h.b.size hh), h.g, fun c hc hm => (st.new c hc).elim (fun h1 => h.d c h1 hm) (fun hh => by have := h.r.lts c hm; omega)⟩
theorem BW.stepR (h : BW W w P D S v Q R u n s r) (hp : RAt w' Q R u' n r') (st : Stp (rfp Q R u) (rfp Q R u') w w') : BW W w' P D S v Q R u' n s r' :=
  ⟨h.p.kept st.keep (fun b hb hm => h.d b hb hm), hp, h.b.trans (st.keep.toBelow h.g h.b.size), h.f, fun c hc => (st.new c hc).elim (h.g c) (fun hh => Nat.le_trans h.b.size hh), fun c hc hm => (st.new c hm).elim (fun h1 => h.d c hc h1) (fun hh => by have := h.p.lts c hc; omega)⟩
theorem BW.below (h : BW W w P D S v Q R u n s r) (hb : Below w.heap.size w w') : BW W w' P D S v Q R u n s r :=
  ⟨h.p.kept (Kept.of_below (F := []) hb) (fun _ _ hh => (by cases hh)), h.r.kept (Kept.of_below (F := []) hb) (fun _ _ hh => (by cases hh)), below_of h.b hb, h.f, h.g, h.d⟩
theorem BW.drewN (h : BW W w P D S v Q R u n s r) (k : Nat) : BW W (w.drewN k) P D S v Q R u n s r := ⟨h.p.drewN k, h.r.drewN k, below_drewN h.b k, h.f, h.g, h.d⟩
theorem Bo.ev0 (h : Bo i n s r) : 1 ≤ r.every := by have := h.q.e0; have := h.e; omega
theorem Bo.ev1 (h : Bo i n s r) : r.every ≤ 100 := by have := h.q.e1; have := h.e; omega
theorem Bo.tick (h : Bo i n s r) (hi : i < 500) : Bo (i + 1) n (s.tick n) (r.tick n (tickL s.x.self s.limit s.xs)) := by
  have h0 := h.ev0
  obtain ⟨e1, e2⟩ := tick_next r.now r.every (by omega)
  have hnw := h.nw
  refine ⟨h.q.tick.more (Nat.le_refl _) (by omega), ?_, ?_, h.tk.rtick _ _, h.e, h.l, ?_, by show r.now + 1 ≤ _; omega⟩
  · have ha : tickB s.left = decide ((r.now + 1) % r.every = 0) := by rw [h.lf]; exact e1
    have hh := h.x.tick n (tickB s.left) (aliveB (tickL s.x.self s.limit s.xs) s.limit s.x.lead)
    show NRel (s.x.tick n _ _) (r.x.rtick n _ _)
    rw [← ha, ← h.l, ← h.x.lead]
    exact hh
  · show Sync (tickL s.x.self s.limit s.xs) r.ats n (s.x.tick n _ _).self s.limit (r.now + 1)
    have hsf : (s.x.tick n (tickB s.left) (aliveB (tickL s.x.self s.limit s.xs) s.limit s.x.lead)).self = s.x.self := by
      unfold Nd.tick
      split
      · rfl
      split
      · rw [Nd.ask_self]
      split
      · rfl
      split
      · rw [Nd.ask_self]
      · rfl
    rw [hsf]
    exact h.y.tick (by omega)
  · show tickLeft s.every s.left = _
    rw [h.e, h.lf]; exact e2
theorem Bo.take (h : Bo i n s r) (y : Wd) : Bo (i + 1) n (s.take y) (r.take n y) := by
  have hq := (h.q.take y).more (Nat.le_succ i) (show 16 * i + 16 ≤ 16 * (i + 1) by omega)
  unfold PN.take RN.take at *
  rw [← h.x.n, ← h.x.self]
  by_cases hc : checkE s.x.n s.x.self y = 0
  · rw [if_pos hc] at hq ⊢
    rw [if_pos hc]
    have hsf : (s.x.take y).self = s.x.self := by
      unfold Nd.take
      split
      · split
        · rfl
        · split
          · rw [Nd.ask_self]; rfl
          · rfl
      · split
        · split <;> rfl
        · split <;> rfl
    refine ⟨hq, h.x.take y, ?_, (h.tk.rtake y).more (by omega), h.e, h.l, h.lf, Nat.le_succ_of_le h.nw⟩
    show Sync (heardR s.xs y.f) (ratsR r.ats n r.now y.f) n (s.x.take y).self s.limit r.now
    rw [hsf]
    exact h.y.heardR y.f
  · rw [if_neg hc] at hq ⊢
    rw [if_neg hc]
    exact ⟨hq, h.x, h.y, h.tk.more (by omega), h.e, h.l, h.lf, Nat.le_succ_of_le h.nw⟩
theorem Bo.over (h : Bo i n s r) (t : Int) : Bo (i + 1) n (s.over t) (r.over t) :=
  ⟨(h.q.over t).more (by omega) (by omega), h.x.over t, by show Sync s.xs r.ats n (s.x.over t).self s.limit r.now; rw [Nd.over_self]; exact h.y, (h.tk.rover t).more (by omega), h.e, h.l, h.lf, Nat.le_succ_of_le h.nw⟩
theorem Bo.claim (h : Bo i n s r) (t : Int) (o : Bool) : Bo (i + 1) n (s.claim t o n) (r.claim t o n) :=
  ⟨(h.q.claim t o).more (by omega) (by omega), h.x.claim t o n, by show Sync s.xs r.ats n (s.x.claim t o n).self s.limit r.now; rw [Nd.claim_self]; exact h.y, (h.tk.rclaim t o).more (by omega), h.e, h.l, h.lf, Nat.le_succ_of_le h.nw⟩
theorem Bo.out (h : Bo i n s r) : Bo (i + 1) n s.out r.out :=
  ⟨h.q.out.more (by omega) (by omega), h.x.outed, h.y, h.tk.more (by omega), h.e, h.l, h.lf, Nat.le_succ_of_le h.nw⟩
theorem Bo.new (n : Nat) (self wait : Int) (every : Nat) (h : nodeB n self wait every = true) : Bo 0 n (PN.new n self wait every) (RN.new n self wait every) := by
  have hq := PI.new n self wait every h
  exact ⟨hq, NRel.refl _, Sync.start n self (3 * every + wait) hq.n8 hq.l0 hq.l1, ⟨by simp [RN.new], by simp [RN.new]⟩, rfl, rfl, by simp [PN.new, RN.new], Nat.le_refl _⟩
theorem BW.ptick (h : BW W w P D S v Q R u n s r) (q : PI i (16 * i) n s) (hi : i < 500) : Calls Try.prog 8 #[ptr P] w fun e w' => e = .returned (.tuple #[]) ∧ ∃ v, BW W w' P D S v Q R u n (s.tick n) r :=
  (ntick_any h.p q.bd.xn (q.xb.small q.l1) (by have := q.f0; omega) (by have := q.f1; omega) q.tk.1 (by have := q.tk.2; omega) q.bd.w0 q.bd.w1 q.bd.s0 q.bd.s1 q.n8 (by have := q.bd.wl; omega)).mono
    fun _ _ ⟨he, u, hp, st⟩ => ⟨he, u, h.stepP hp st⟩
theorem BW.rtick (h : BW W w P D S v Q R u n s' r) (q : Bo i n s r) (hi : i < 500) : Calls Try.prog 9 #[ptr Q] w fun e w' => e = .returned (.tuple #[]) ∧ ∃ u, BW W w' P D S v Q R u n s' (r.tick n (tickL s.x.self s.limit s.xs)) := by
  have hy := q.y.tick (by have := q.nw; omega)
  rw [q.x.self, q.l] at hy
  have hb := q.q.bd
  have hx := q.x
  refine (rntick_any h.r (by rw [← hx.n]; exact hb.xn) (xs := tickL s.x.self s.limit s.xs) q.ev0 q.ev1 (by have := q.nw; omega) (by rw [q.x.self, q.l]; exact hy) q.tk.1 (by have := q.tk.2; omega) (by rw [← hx.wait]; exact hb.w0) (by rw [← hx.wait]; exact hb.w1) (by rw [← hx.self]; exact hb.s0) (by rw [← hx.self]; exact hb.s1) q.q.n8 (by rw [← hx.ws]; have := hb.wl; omega)).mono ?_
  exact fun _ _ ⟨he, u, hp, st⟩ => ⟨he, u, h.stepR hp st⟩
theorem BW.pover (h : BW W w P D S v Q R u n s r) (t : Int) : Calls Try.prog 17 #[ptr P, .int .i64 t] w fun e w' => e = .returned (.tuple #[]) ∧ ∃ v, BW W w' P D S v Q R u n (s.over t) r :=
  (Ytccmnphjiebiaaa.pover h.p t).mono fun _ _ ⟨he, u, hp, st⟩ => ⟨he, u, h.stepP hp st⟩
theorem BW.poverB (h : BW W w P D S v Q R u n s r) (t : Int) {B : Nat} {bx : Array Value} (hb : Row w B bx 33) (hn : B ∉ fp P D S v) : Calls Try.prog 17 #[ptr P, .int .i64 t] w fun e w' => e = .returned (.tuple #[]) ∧ ∃ v, BW W w' P D S v Q R u n (s.over t) r ∧ Row w' B bx 33 :=
  (Ytccmnphjiebiaaa.pover h.p t).mono fun _ _ ⟨he, u, hp, st⟩ => ⟨he, u, h.stepP hp st, hb.kept st.keep hn⟩
theorem BW.rover (h : BW W w P D S v Q R u n s r) (t : Int) : Calls Try.prog 18 #[ptr Q, .int .i64 t] w fun e w' => e = .returned (.tuple #[]) ∧ ∃ u, BW W w' P D S v Q R u n s (r.over t) :=
  (rpover h.r t).mono fun _ _ ⟨he, u, hp, st⟩ => ⟨he, u, h.stepR hp st⟩
theorem BW.pout (h : BW W w P D S v Q R u n s r) : Calls Try.prog 15 #[ptr P] w fun e w' => e = .returned v ∧ BW W w' P D S (.slice none 0 0) Q R u n s.out r ∧ WIn w' v s.x.ws ∧ (∀ b ∈ own v, b < w'.heap.size) :=
  (Ytccmnphjiebiaaa.pout h.p).mono fun _ _ ⟨he, hp, hw, st, hl⟩ => ⟨he, h.stepP hp st, hw, hl⟩
/-- The reference's words, next to a list that lies apart. -/
theorem BW.rout (h : BW W w P D S v Q R u n s r) {z : Value} {ws : List Wd} (hz : WIn w z ws) (hl : ∀ b ∈ own z, b < w.heap.size) (hn : ∀ b ∈ own z, b ∉ rfp Q R u) :
    Calls Try.prog 16 #[ptr Q] w fun e w' => e = .returned u ∧ BW W w' P D S v Q R (.slice none 0 0) n s r.out ∧ WIn w' u r.x.ws ∧ WIn w' z ws :=
  (rpout h.r).mono fun _ _ ⟨he, hp, hw, st, _⟩ => ⟨he, h.stepR hp st, hw, hz.kept st.keep hl hn⟩
/-- The document's words of the program's, in new memory. -/
theorem BW.from (h : BW W w P D S v Q R u n s r) {z : Value} {ws : List Wd} (hz : WIn w z ws) (hl : ∀ b ∈ own z, b < w.heap.size) (hw : ws.length ≤ 1048500) :
    Calls Try.prog 14 #[z] w fun e w' => ∃ y, e = .returned y ∧ BW W w' P D S v Q R u n s r ∧ WIn w' y ws ∧ (∀ b ∈ own y, b < w'.heap.size) ∧ (∀ b ∈ own y, b ∉ rfp Q R u) :=
  (from_any hz hl hw).mono fun _ _ ⟨y, he, hs, hb, hn⟩ => ⟨y, he, h.below hb, hs.read, own_lt hs, fun b hb' hm => by have := h.r.lts b hm; have := hn b hb'; omega⟩
theorem BW.pwants (h : BW W w P D S v Q R u n s r) (q : PI i (16 * i) n s) (a : Int) (b : Bool) (he : s.x.wants = (a, b)) : Calls Try.prog 21 #[ptr P] w fun e w' => e = .returned (.tuple #[.int .i64 a, .bool b]) ∧ w' = w := by
  have := Ytccmnphjiebiaaa.pwants h.p q.bd.t0 (by have := q.bd.t1; omega)
  rw [he] at this
  exact this
theorem BW.rwants (h : BW W w P D S v Q R u n s r) (q : Bo i n s r) (a : Int) (b : Bool) (he : s.x.wants = (a, b)) : Calls Try.prog 22 #[ptr Q] w fun e w' => e = .returned (.tuple #[.int .i64 a, .bool b]) ∧ w' = w := by
  have := rpwants h.r (by rw [← q.x.term]; exact q.q.bd.t0) (by rw [← q.x.term]; have := q.q.bd.t1; omega)
  rw [← q.x.wants, he] at this
  exact this
theorem BW.pstate (h : BW W w P D S v Q R u n s r) (a b c : Int) (ha : s.x.role = a) (hb : s.x.lead = b) (hc : s.x.term = c) : Calls Try.prog 23 #[ptr P] w fun e w' => e = .returned (.tuple #[.int .i64 a, .int .i64 b, .int .i64 c]) ∧ w' = w.drew := by
  subst ha hb hc
  exact Ytccmnphjiebiaaa.pstate h.p
theorem take_c {n : Nat} {s : PN} {v : Value} (h : PAt w P D S v s) (q : PI i (16 * i) n s) (hi : i < 500) (k f t x c : Int) (hc : checkE s.x.n s.x.self ⟨k, f, t, x⟩ = c) : Calls Try.prog 10 #[.pointer (some ⟨P, 0, none⟩), .agg #[.int .i64 k, .int .i64 f, .int .i64 t, .int .i64 x]] w fun e w' => e = .returned (.int .i64 c) ∧ ∃ u, PAt w' P D S u (s.take ⟨k, f, t, x⟩) ∧ Stp (fp P D S v) (fp P D S u) w w' :=
  (ntake_any h q.bd.xn ⟨k, f, t, x⟩ q.bd.s0 q.bd.s1 q.n8 (by have := q.bd.wl; omega)).mono fun _ _ ⟨he, hh⟩ => ⟨hc ▸ he, hh⟩
theorem rtake_c (h : RAt w Q R u n r) (q : Bo i n s r) (hi : i < 500) (k f t x c : Int) (hc : checkE s.x.n s.x.self ⟨k, f, t, x⟩ = c) : Calls Try.prog 12 #[.pointer (some ⟨Q, 0, none⟩), .agg #[.int .i64 k, .int .i64 f, .int .i64 t, .int .i64 x]] w fun e w' => e = .returned (.int .i64 c) ∧ ∃ u', RAt w' Q R u' n (r.take n ⟨k, f, t, x⟩) ∧ Stp (rfp Q R u) (rfp Q R u') w w' := by
  have hx := q.x
  have hb := q.q.bd
  have hy := q.y
  rw [q.x.self, q.l] at hy
  refine (rntake_any h (by rw [← hx.n]; exact hb.xn) hy ⟨k, f, t, x⟩ (by rw [← hx.self]; exact hb.s0) (by rw [← hx.self]; exact hb.s1) q.q.n8 (by rw [← hx.ws]; have := hb.wl; omega)).mono ?_
  rw [← hx.n, ← hx.self, hc]
  exact fun _ _ hh => hh
theorem claim_c {n : Nat} {s : PN} {v : Value} (h : PAt w P D S v s) (q : PI i (16 * i) n s) (hi : i < 500) (t : Int) (o : Bool) (c : Int) (hc : s.x.claimE t = c) : Calls Try.prog 19 #[.pointer (some ⟨P, 0, none⟩), .int .i64 t, .bool o] w fun e w' => e = .returned (.int .i64 c) ∧ ∃ u, PAt w' P D S u (s.claim t o n) ∧ Stp (fp P D S v) (fp P D S u) w w' :=
  (pclaim h q.bd.xn q.n8 (by have := q.bd.wl; omega) t o).mono fun _ _ ⟨he, hh⟩ => ⟨hc ▸ he, hh⟩
theorem rclaim_c (h : RAt w Q R u n r) (q : Bo i n s r) (hi : i < 500) (t : Int) (o : Bool) (c : Int) (hc : s.x.claimE t = c) : Calls Try.prog 20 #[.pointer (some ⟨Q, 0, none⟩), .int .i64 t, .bool o] w fun e w' => e = .returned (.int .i64 c) ∧ ∃ u', RAt w' Q R u' n (r.claim t o n) ∧ Stp (rfp Q R u) (rfp Q R u') w w' := by
  have hx := q.x
  refine (rpclaim h (by rw [← hx.n]; exact q.q.bd.xn) q.q.n8 (by rw [← hx.ws]; have := q.q.bd.wl; omega) t o).mono ?_
  rw [← hx.claimE, hc]
  exact fun _ _ hh => hh
end
/-- A statement that steps both nodes, in whatever order: operation i the program's, j the reference's; a box beside them. -/
structure D1 (W : World) (P D S Q R n : Nat) (s s1 : PN) (r r1 : RN) (i j B : Nat) (bx : Array Value) (σ : St) (w : World) : Prop where
  e : ∃ v u, BW W w P D S v Q R u n (if (σ i).isSome then s1 else s) (if (σ j).isSome then r1 else r) ∧ B ∉ fp P D S v ∧ B ∉ rfp Q R u
  b : Row w B bx 33
section
variable {W w w' : World} {P D S Q R n i j k B : Nat} {v u x : Value} {s s1 : PN} {r r1 : RN} {bx : Array Value} {σ : St}
theorem D1.start (h : BW W w P D S v Q R u n s r) (hb : Row w B bx 33) (h1 : B ∉ fp P D S v) (h2 : B ∉ rfp Q R u) : D1 W P D S Q R n s s1 r r1 i j B bx (fun _ => none) w.drew :=
  ⟨⟨v, u, by have h3 : BW W w.drew P D S v Q R u n s r := h.drewN 1; simpa using h3, h1, h2⟩, hb.drew⟩
theorem D1.pure (h : D1 W P D S Q R n s s1 r r1 i j B bx σ w) (h1 : i ≠ k) (h2 : j ≠ k) : D1 W P D S Q R n s s1 r r1 i j B bx (σ.upd k x) w :=
  ⟨by rw [upd_ne h1, upd_ne h2]; exact h.e, h.b⟩
theorem D1.below (h : D1 W P D S Q R n s s1 r r1 i j B bx σ w) (hb : Below w.heap.size w w') (h1 : i ≠ k) (h2 : j ≠ k) : D1 W P D S Q R n s s1 r r1 i j B bx (σ.upd k x) w' :=
  ⟨by rw [upd_ne h1, upd_ne h2]; obtain ⟨v, u, hw, a, b⟩ := h.e; exact ⟨v, u, hw.below hb, a, b⟩, h.b.below hb⟩
theorem D1.stepP (h : D1 W P D S Q R n s s1 r r1 i j B bx σ w) (hk : σ i = none) (hij : j ≠ i) : ∃ v, PAt w P D S v s ∧ ∀ w' v' x, PAt w' P D S v' s1 → Stp (fp P D S v) (fp P D S v') w w' → D1 W P D S Q R n s s1 r r1 i j B bx (σ.upd i x) w' := by
  obtain ⟨v, u, hw, a, b⟩ := h.e
  rw [hk] at hw
  have hB := h.b.lt
  refine ⟨v, by simpa using hw.p, fun w' v' x hp st => ⟨⟨v', u, ?_, fun hm => ?_, b⟩, h.b.kept st.keep a⟩⟩
  · rw [upd_eq, upd_ne hij]
    simpa using hw.stepP hp st
  · rcases st.new _ hm with h1 | h1
    · exact a h1
    · omega
theorem D1.stepR (h : D1 W P D S Q R n s s1 r r1 i j B bx σ w) (hk : σ j = none) (hij : i ≠ j) : ∃ u, RAt w Q R u n r ∧ ∀ w' u' x, RAt w' Q R u' n r1 → Stp (rfp Q R u) (rfp Q R u') w w' → D1 W P D S Q R n s s1 r r1 i j B bx (σ.upd j x) w' := by
  obtain ⟨v, u, hw, a, b⟩ := h.e
  rw [hk] at hw
  have hB := h.b.lt
  refine ⟨u, by simpa using hw.r, fun w' u' x hp st => ⟨⟨v, u', ?_, a, fun hm => ?_⟩, h.b.kept st.keep b⟩⟩
  · rw [upd_eq, upd_ne hij]
    simpa using hw.stepR hp st
  · rcases st.new _ hm with h1 | h1
    · exact b h1
    · omega
end
end Go.Proofs.Ytccmnphjiebiaaa
