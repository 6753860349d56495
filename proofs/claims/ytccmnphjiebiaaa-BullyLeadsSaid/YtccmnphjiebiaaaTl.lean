/- Somebody leads: behind sixty rounds one leads and all others that are up follow it. Plain law. Condition: a good town at rest. -/
import Derived.Test.YtccmnphjiebiaaaTf
namespace Go.Proofs.Ytccmnphjiebiaaa
set_option linter.unusedVariables false
set_option linter.unusedSimpArgs false
section
variable {n m L k : Nat} {U : Nat → Bool} {t : Tw} {T0 : Int}
theorem q_tick {T : Int} {s : PN} (g : Gn n k T s) (hk : k < n) (hT : T ≤ 1000000) (h0 : 0 ≤ T) (h3 : s.x.role ≠ 3) (hw : s.x.ws = []) (hL : L < n) (hLk : k ≠ L) (hl : s.x.lead = L) (hr : s.x.role = 0 ∨ (s.x.role = 2 ∧ s.x.ticks ≤ 2)) (ha : at_ s.xs L ≤ 6) :
    ∃ l, (s.over T).tick n = { s with x := { s.x with ticks := s.x.ticks + 1 }, xs := tickL k 8 s.xs, left := l } ∧ at_ (tickL k 8 s.xs) L = at_ s.xs L + 1 := by
  have hin : inR (L : Int) n = true := by unfold inR; simp; omega
  have hat : at_ (tickL k 8 s.xs) L = at_ s.xs L + 1 := by rw [at_tick g.xb g.xl (by omega) hin, if_neg (by omega)]
  have hal : s.alive = true := by
    unfold PN.alive
    rw [g.self, g.lm, hl]
    unfold aliveB
    rw [tickL_len, g.xl, hin, hat]
    simp; omega
  obtain ⟨-, -, ⟨r, ht, h, e⟩ | ⟨r, ht, h, e⟩ | ⟨l, hl, ⟨r, h, e⟩ | ⟨hl1, hr', e⟩ | ⟨hl1, hr', e⟩ | ⟨hl1, r, h, e⟩ | ⟨hl1, r, h, e⟩ | ⟨r, h, e⟩ | ⟨r, h, e⟩ | ⟨r, h, e⟩⟩⟩ := ot_cases g hk hT h0 h3 hw
  · omega
  · omega
  · exact ⟨l, e, hat⟩
  · exfalso
    rcases hr' with ⟨a, b⟩ | ⟨a, b⟩
    · rw [hal] at b; cases b
    · omega
  · exfalso
    rcases hr' with ⟨a, b⟩ | ⟨a, b⟩
    · rw [hal] at b; cases b
    · omega
  · omega
  · omega
  · omega
  · omega
  · exact ⟨l, e, hat⟩
theorem Qz.tick (h : G n U t []) (r : Rs n t) (hT : t.T ≤ 900000) (q : Qz n U L t) : ∀ k, k < n → U k = true → k ≠ L → ∃ l, (tickU n U t).b k = { t.b k with x := { (t.b k).x with ticks := (t.b k).x.ticks + 1 }, xs := tickL k 8 (t.b k).xs, left := l } ∧ at_ (tickL k 8 (t.b k).xs) L = at_ (t.b k).xs L + 1 := by
  intro k hk hU hkL
  obtain ⟨a, b, c, d⟩ := q.k k hk hU hkL
  have hlf := (h.g L q.lt).lf
  rw [tickU_b hk hU]
  exact q_tick (h.g k hk) hk (by omega) h.T0 (r.r k hk) (r.w k hk) q.lt hkL a (c.imp id (fun hh => ⟨hh.1, by omega⟩)) (by omega)
/-- All follow, and none speaks. -/
theorem round_q2 (h : G n U t []) (r : Rs n t) (hn : n ≤ 5) (hT : t.T ≤ 900000) (q : Qz n U L t) (hl : (t.b L).left = 2) : Qz n U L (round n U t) ∧ ((round n U t).b L).left = 1 ∧ (Q0 n U L t → Q0 n U L (round n U t)) := by
  have hqt := q.tick h r hT
  obtain ⟨hr, htm⟩ := q.la
  have hbL : (tickU n U t).b L = { t.b L with x := { (t.b L).x with ticks := (t.b L).x.ticks + 1 }, xs := tickL L 8 (t.b L).xs, left := 1 } := by
    rw [tickU_b q.lt q.up]
    obtain ⟨-, -, ⟨_, ht, hh, e⟩ | ⟨_, ht, hh, e⟩ | ⟨l, hl, ⟨r, hh, e⟩ | ⟨hl1, hr, e⟩ | ⟨hl1, hr, e⟩ | ⟨hl1, r, hh, e⟩ | ⟨hl1, r, hh, e⟩ | ⟨r, hh, e⟩ | ⟨r, hh, e⟩ | ⟨r, hh, e⟩⟩⟩ := ot_cases (h.g L q.lt) q.lt (by omega) h.T0 (r.r L q.lt) (r.w L q.lt)
    · omega
    · exact e
    all_goals (exfalso; omega)
  have hb : Rb n (tickU n U t) := by
    refine ⟨fun k hk => ?_, fun k hk => ?_⟩
    · by_cases ek : k = L
      · rw [ek, hbL]; exact r.w L q.lt
      · cases hU : U k
        · rw [tickU_not hU]; exact r.w k hk
        · obtain ⟨l, e, -⟩ := hqt k hk hU ek
          rw [e]; exact r.w k hk
    · by_cases ek : k = L
      · rw [ek, hbL]; exact r.r L q.lt
      · cases hU : U k
        · rw [tickU_not hU]; exact r.r k hk
        · obtain ⟨l, e, -⟩ := hqt k hk hU ek
          rw [e]; exact r.r k hk
  have hround : round n U t = tickU n U t := by
    unfold round
    rw [gath_id hb r.l]
    exact dlv_id (show (tickU n U t).l = [] from r.l) 20
  rw [hround]
  have hq : Qz n U L (tickU n U t) := by
    refine ⟨q.lt, q.up, ⟨by rw [hbL]; exact hr, by rw [hbL]; exact htm⟩, fun k hk hU hkL => ?_⟩
    obtain ⟨a, b, c, d⟩ := q.k k hk hU hkL
    obtain ⟨l, e, hat⟩ := hqt k hk hU hkL
    rw [e, hbL]
    refine ⟨a, b, c.imp id (fun hh => ⟨hh.1, ?_⟩), ?_⟩
    · show (t.b k).x.ticks + 1 + 1 ≤ 3; omega
    · show at_ (tickL k 8 (t.b k).xs) L + 1 ≤ 7; omega
  refine ⟨hq, by rw [hbL], fun q0 => ⟨hq, fun k hk hU hkL => ?_⟩⟩
  obtain ⟨l, e, -⟩ := hqt k hk hU hkL
  rw [e]; exact q0.2 k hk hU hkL
/-- All follow, or wait, and the leader speaks. -/
theorem round_q1 (h : G n U t []) (r : Rs n t) (hn : n ≤ 5) (hT : t.T ≤ 900000) (q : Qz n U L t) (hl : (t.b L).left = 1) : Q0 n U L (round n U t) := by
  have hqt := q.tick h r hT
  obtain ⟨hr, htm⟩ := q.la
  have h0 := h.T0
  have hT1 : (tickU n U t).T = t.T := rfl
  have ht1 := h.tickU r (by omega)
  have hbL : (tickU n U t).b L = { t.b L with x := { (t.b L).x with ticks := (t.b L).x.ticks + 1, ws := leads L t.T n }, xs := tickL L 8 (t.b L).xs, left := 2 } := by
    rw [tickU_b q.lt q.up]
    obtain ⟨-, -, ⟨_, ht, hh, e⟩ | ⟨_, ht, hh, e⟩ | ⟨l, hl, ⟨r, hh, e⟩ | ⟨hl1, hr, e⟩ | ⟨hl1, hr, e⟩ | ⟨hl1, r, hh, e⟩ | ⟨hl1, r, hh, e⟩ | ⟨r, hh, e⟩ | ⟨r, hh, e⟩ | ⟨r, hh, e⟩⟩⟩ := ot_cases (h.g L q.lt) q.lt (by omega) h.T0 (r.r L q.lt) (r.w L q.lt)
    · exact e
    · omega
    all_goals (exfalso; omega)
  have h3 : ∀ k, k < n → ((tickU n U t).b k).x.role ≠ 3 := fun k hk => by
    by_cases ek : k = L
    · rw [ek, hbL]; exact r.r L q.lt
    · cases hU : U k
      · rw [tickU_not hU]; exact r.r k hk
      · obtain ⟨l, e, -⟩ := hqt k hk hU ek
        rw [e]; exact r.r k hk
  have hw : ∀ y, pend n U (tickU n U t) [] y → y.f = L := fun y hy => by
    rcases hy with hy | hy | ⟨k, hk, hU, hy⟩
    · cases hy
    · rw [show (tickU n U t).l = [] from r.l] at hy; cases hy
    · by_cases ek : k = L
      · subst ek
        rw [hbL] at hy
        obtain ⟨j, -, -, rfl⟩ := lds_mem.1 hy
        rfl
      · obtain ⟨l, e, -⟩ := hqt k hk hU ek
        rw [e] at hy
        rw [show ({ t.b k with x := { (t.b k).x with ticks := (t.b k).x.ticks + 1 }, xs := tickL k 8 (t.b k).xs, left := l } : PN).x.ws = [] from r.w k hk] at hy
        cases hy
  obtain ⟨g1, ⟨i1, i2, i3, i4, i5, i6⟩, -⟩ := gath_ind (U := U) (Inv := fun s cur => s.T = t.T ∧ (s.b L).x.role = 4 ∧ (s.b L).x.term = t.T ∧ (s.b L).left = 2 ∧ (∀ k, k < n → (s.b k).x.role ≠ 3) ∧ ∀ y, pend n U s cur y → y.f = L) (fun s k hk hU hT h ⟨a, b, c, d, e3, f⟩ => by
    rcases gat_cases h hT hk with ⟨-, e⟩ | ⟨h3', -⟩ | ⟨h3', -⟩
    · have hs : (gat1 n s k).b k = { (s.b k) with x := { (s.b k).x with ws := [] } } := by rw [e]; exact Tw.set_same _ _ _
      refine ⟨by rw [e]; exact a, ?_, ?_, ?_, fun j hj => ?_, fun y hy => ?_⟩
      · by_cases ek : L = k
        · rw [ek, hs, ← ek]; exact b
        · rw [gat1_b (Ne.symm ek)]; exact b
      · by_cases ek : L = k
        · rw [ek, hs, ← ek]; exact c
        · rw [gat1_b (Ne.symm ek)]; exact c
      · by_cases ek : L = k
        · rw [ek, hs, ← ek]; exact d
        · rw [gat1_b (Ne.symm ek)]; exact d
      · by_cases ek : j = k
        · rw [ek, hs]; exact e3 k hk
        · rw [gat1_b (Ne.symm ek)]; exact e3 j hj
      · rw [e] at hy
        rcases (pend_flush hk hU rfl).1 hy with hy | hy
        · exact f y hy
        · cases hy
    · exact absurd h3' (e3 k hk)
    · exact absurd h3' (e3 k hk)) ht1 ⟨rfl, by rw [hbL]; exact hr, by rw [hbL]; exact htm, by rw [hbL], h3, hw⟩ (by rw [hT1]; omega)
  have b1 : Rb n (gath n U (tickU n U t)) := gath_rb ht1 (by rw [hT1]; omega) (fun k hk hU => by rw [tickU_not hU]; exact ⟨r.w k hk, r.r k hk⟩)
  obtain ⟨A, B, hAB, hne⟩ := gath_split ht1 (by rw [hT1]; omega) r.l q.lt q.up (h3 L q.lt)
  rw [hbL] at hAB
  have hAe : A = [] := by
    cases A with
    | nil => rfl
    | cons a A => exact absurd (i6 a (.inr (.inl (by rw [hAB]; simp)))) (hne a (by simp))
  have hBe : B = [] := by
    cases B with
    | nil => rfl
    | cons a B => exact absurd (i6 a (.inr (.inl (by rw [hAB]; simp)))) (hne a (by simp))
  obtain ⟨t2, p1, p2, p3, p4, p5⟩ := s_point (T0 := t.T) g1 b1 i1 (by omega) q.lt q.up i2 i3 i4 hAB hne (fun y hy _ => i6 y (.inr (.inl hy)))
  have hround : round n U t = t2 := by
    unfold round
    rw [dlv_step b1]
    unfold dlv1
    rw [p4, hBe]
    show dlv n U 19 (gath n U t2) = t2
    rw [gath_id (p5 hAe) p3, dlv_id p3]
  rw [hround]
  refine ⟨⟨q.lt, q.up, ⟨p2.r, p2.tm.trans p2.T.symm⟩, fun k hk hU hkL => ?_⟩, fun k hk hU hkL => (p2.sd k hk hU hkL).1⟩
  obtain ⟨s0, s1, s2, s3⟩ := p2.sd k hk hU hkL
  have := p2.l
  exact ⟨s1, s2.trans p2.T.symm, .inl s0, by omega⟩
/-- How far a town is from one that leads. -/
def Stt (n : Nat) (U : Nat → Bool) (m : Nat) (r : Nat) (t : Tw) : Prop :=
  (∃ L, Q0 n U L t) ∨ (1 ≤ r ∧ ∃ L, Qz n U L t ∧ (t.b L).left = 1) ∨ (2 ≤ r ∧ ∃ L, Qz n U L t) ∨ (3 ≤ r ∧ LA t m ∧ (t.b m).left = 1) ∨ (4 ≤ r ∧ LA t m) ∨
  (∃ L, L < n ∧ U L = true ∧ L ≠ m ∧ LA t L ∧ ((5 ≤ r ∧ (t.b L).left = 1 ∧ mu t.T (t.b m) ≤ 1) ∨ (6 ≤ r ∧ mu t.T (t.b m) ≤ 2 ∧ (t.b L).left = 2) ∨ (7 ≤ r ∧ (t.b L).left = 1) ∨ 8 ≤ r)) ∨
  ((∀ k, k < n → U k = true → ¬ LA t k) ∧ 4 + mu t.T (t.b m) ≤ r)
theorem la_uniq (h : G n U t []) (hL : L < n) (hla : LA t L) {k : Nat} (hk : k < n) : LA t k ↔ k = L := by
  constructor
  · intro hh; exact h.u k L hk hL hh.1 hla.1 (by rw [hh.2, hla.2])
  · intro e; subst e; exact hla
theorem Stt.step {r : Nat} (hm : Mx n U m) (h : G n U t []) (rs : Rs n t) (hn : n ≤ 5) (hT : t.T ≤ 900000) (hf : Fresh n U m t) (hs : Stt n U m (r + 1) t) : Stt n U m r (round n U t) := by
  obtain ⟨g', rr, -⟩ := round_base h rs hn hT
  rcases hs with ⟨L, q⟩ | ⟨hr, L, q, hl⟩ | ⟨hr, L, q⟩ | ⟨hr, q, hl⟩ | ⟨hr, q⟩ | ⟨L, hL, hU, hLm, hla, hc⟩ | ⟨hno, hr⟩
  · left
    rcases (h.g L q.1.lt).lf with hl | hl
    · exact ⟨L, round_q1 h rs hn hT q.1 hl⟩
    · exact ⟨L, (round_q2 h rs hn hT q.1 hl).2.2 q⟩
  · exact .inl ⟨L, round_q1 h rs hn hT q hl⟩
  · rcases (h.g L q.lt).lf with hl | hl
    · exact .inl ⟨L, round_q1 h rs hn hT q hl⟩
    · obtain ⟨a, b, -⟩ := round_q2 h rs hn hT q hl
      exact .inr (.inl ⟨by omega, L, a, b⟩)
  · exact .inr (.inr (.inl ⟨by omega, m, round_kk hm h rs hn hT hf q hl⟩))
  · rcases (h.g m hm.lt).lf with hl | hl
    · exact .inr (.inr (.inl ⟨by omega, m, round_kk hm h rs hn hT hf q hl⟩))
    · obtain ⟨a, b⟩ := round_pl hm h rs hn hT hf q hl
      exact .inr (.inr (.inr (.inl ⟨by omega, a, b⟩)))
  · have h4 : ¬ LA t m := fun hh => hLm ((la_uniq h hL hla hm.lt).1 hh).symm
    rcases (h.g L hL).lf with hl | hl
    · rcases round_kp hm h rs hn hT hf hL hU hLm hla hl with a | ⟨hmu, ⟨a⟩ | ⟨a, b, c, d⟩⟩
      · exact .inr (.inr (.inr (.inr (.inl ⟨by omega, a⟩))))
      · exact .inl ⟨L, by assumption⟩
      · exact .inr (.inr (.inr (.inr (.inr (.inl ⟨L, hL, hU, hLm, (a L hL hU hLm).2 rfl, .inr (.inl ⟨by omega, d, b⟩)⟩)))))
    · rcases round_mo hm h rs hn hT hf (Lo := some L) (fun k hk hU hkm => by rw [la_uniq h hL hla hk]; exact ⟨fun e => by rw [e], fun e => by injection e with e; exact e.symm⟩) (fun L' e => by injection e with e; subst e; exact ⟨hL, hU, hLm, hl⟩) h4 with a | ⟨a, b, c, d⟩
      · exact .inr (.inr (.inr (.inr (.inl ⟨by omega, a⟩))))
      · have hLA' := (a L hL hU hLm).2 rfl
        have hl' := b L rfl
        refine .inr (.inr (.inr (.inr (.inr (.inl ⟨L, hL, hU, hLm, hLA', ?_⟩)))))
        rcases hc with ⟨q1, q2, q3⟩ | ⟨q1, q2, q3⟩ | ⟨q1, q2⟩ | q1
        · omega
        · exact .inl ⟨by omega, hl', by omega⟩
        · omega
        · exact .inr (.inr (.inl ⟨by omega, hl'⟩))
  · have hp := mu_pos (T := t.T) (h.g m hm.lt) (rs.r m hm.lt)
    rcases round_mo hm h rs hn hT hf (Lo := none) (fun k hk hU hkm => ⟨fun hh => absurd hh (hno k hk hU), fun e => by cases e⟩) (fun L' e => by cases e) (hno m hm.lt hm.up) with a | ⟨a, b, c, d⟩
    · exact .inr (.inr (.inr (.inr (.inl ⟨by omega, a⟩))))
    · refine .inr (.inr (.inr (.inr (.inr (.inr ⟨fun k hk hU => ?_, by omega⟩)))))
      by_cases e : k = m
      · subst e; exact c
      · intro hh
        have := (a k hk hU e).1 hh
        cases this
def rounds (n : Nat) (U : Nat → Bool) : Nat → Tw → Tw
  | 0, t => t
  | j + 1, t => round n U (rounds n U j t)
theorem rounds_base (h : G n U t []) (r : Rs n t) (hn : n ≤ 5) (hT : t.T ≤ 100000) : ∀ j, j ≤ 60 → G n U (rounds n U j t) [] ∧ Rs n (rounds n U j t) ∧ (rounds n U j t).T ≤ t.T + j * 105
  | 0, _ => ⟨h, r, by simp [rounds]⟩
  | j + 1, hj => by
    obtain ⟨a, b, c⟩ := rounds_base h r hn hT j (by omega)
    obtain ⟨d, e, -, f⟩ := round_base a b hn (by omega)
    exact ⟨d, e, by show (round n U (rounds n U j t)).T ≤ _; omega⟩
theorem exists_max (U : Nat → Bool) : ∀ n, (∃ k, k < n ∧ U k = true) → ∃ m, Mx n U m
  | 0, ⟨k, hk, _⟩ => by omega
  | n + 1, ⟨k, hk, hU⟩ => by
    by_cases hn : U n = true
    · exact ⟨n, by omega, hn, fun k hk _ => by omega⟩
    · obtain ⟨m, a, b, c⟩ := exists_max U n ⟨k, by
        rcases Nat.lt_or_ge k n with h | h
        · exact h
        · have : k = n := by omega
          subst this; exact absurd hU hn, hU⟩
      exact ⟨m, by omega, b, fun k hk hU => by
        rcases Nat.lt_or_ge k n with h | h
        · exact c k h hU
        · have : k = n := by omega
          subst this; exact absurd hU hn⟩
/-- SOMEBODY LEADS. -/
theorem leads_law (h : G n U t []) (r : Rs n t) (hn : n ≤ 5) (hT : t.T ≤ 100000) (hU : ∃ k, k < n ∧ U k = true) : ∃ L, Q0 n U L (rounds n U 60 t) := by
  obtain ⟨m, hm⟩ := exists_max U n hU
  have hb := rounds_base h r hn hT
  have hfr : ∀ j, j ≤ 58 → Fresh n U m (rounds n U (j + 2) t) := by
    intro j
    induction j with
    | zero => intro _; exact round2_fresh (t := t) hm h r hn (by omega)
    | succ j ih =>
      intro hj
      obtain ⟨a, b, c⟩ := hb (j + 2) (by omega)
      exact round_fresh hm a b hn (by omega) (ih (by omega))
  have hst : ∀ j, j ≤ 58 → Stt n U m (58 - j) (rounds n U (j + 2) t) := by
    intro j
    induction j with
    | zero =>
      intro _
      obtain ⟨a, b, c⟩ := hb 2 (by omega)
      by_cases hla : ∃ L, L < n ∧ U L = true ∧ LA (rounds n U 2 t) L
      · obtain ⟨L, h1, h2, h3⟩ := hla
        by_cases e : L = m
        · subst e; exact .inr (.inr (.inr (.inr (.inl ⟨by omega, h3⟩))))
        · exact .inr (.inr (.inr (.inr (.inr (.inl ⟨L, h1, h2, e, h3, .inr (.inr (.inr (by omega)))⟩)))))
      · have := mu_le (T := (rounds n U 2 t).T) (a.g m hm.lt) (b.r m hm.lt)
        exact .inr (.inr (.inr (.inr (.inr (.inr ⟨fun k hk hU hh => hla ⟨k, hk, hU, hh⟩, by show 4 + mu (rounds n U 2 t).T ((rounds n U 2 t).b m) ≤ _; omega⟩)))))
    | succ j ih =>
      intro hj
      obtain ⟨a, b, c⟩ := hb (j + 2) (by omega)
      have hs := ih (by omega)
      have e : 58 - j = (58 - (j + 1)) + 1 := by omega
      rw [e] at hs
      exact hs.step hm a b hn (by omega) (hfr j (by omega))
  have h60 := hst 58 (by omega)
  rcases h60 with q | ⟨hr, -⟩ | ⟨hr, -⟩ | ⟨hr, -⟩ | ⟨hr, -⟩ | ⟨L, _, _, _, _, hc⟩ | ⟨hno, hr⟩
  · exact q
  · omega
  · omega
  · omega
  · omega
  · rcases hc with ⟨q1, -⟩ | ⟨q1, -⟩ | ⟨q1, -⟩ | q1 <;> omega
  · exfalso
    obtain ⟨a, b, c⟩ := hb 60 (by omega)
    have := mu_pos (T := (rounds n U 60 t).T) (a.g m hm.lt) (b.r m hm.lt)
    have : (4 : Int) + mu (rounds n U 60 t).T ((rounds n U 60 t).b m) ≤ ((58 - 58 : Nat) : Int) := hr
    omega
end
end Go.Proofs.Ytccmnphjiebiaaa
