/- A round of a town: ticks, all is gathered and given out till nothing is on its way. Plain law. Condition: a good town at rest. -/
import Derived.Test.YtccmnphjiebiaaaTw
namespace Go.Proofs.Ytccmnphjiebiaaa
set_option linter.unusedVariables false
set_option linter.unusedSimpArgs false
structure Rs (n : Nat) (t : Tw) : Prop where
  l : t.l = []
  w : ∀ k, k < n → (t.b k).x.ws = []
  r : ∀ k, k < n → (t.b k).x.role ≠ 3
def tickU (n : Nat) (U : Nat → Bool) (t : Tw) : Tw := { t with b := fun k => if k < n ∧ U k = true then ((t.b k).over t.T).tick n else t.b k }
def round (n : Nat) (U : Nat → Bool) (t : Tw) : Tw := dlv n U 20 (gath n U (tickU n U t))
section
variable {n k : Nat} {U : Nat → Bool} {t : Tw} {w y : Wd} {cur : List Wd}
theorem tickU_b (hk : k < n) (hU : U k = true) : (tickU n U t).b k = ((t.b k).over t.T).tick n := if_pos ⟨hk, hU⟩
theorem tickU_not (hU : U k = false) : (tickU n U t).b k = t.b k := if_neg (by rw [hU]; simp)
/-- What 'over' and a tick make of a node. -/
theorem ot_cases {T : Int} {s : PN} (g : Gn n k T s) (hk : k < n) (hT : T ≤ 1000000) (h0 : 0 ≤ T) (h3 : s.x.role ≠ 3) (hw : s.x.ws = []) :
    Gn n k T ((s.over T).tick n) ∧ ((s.over T).tick n).xs = tickL k 8 s.xs ∧
    ((s.x.role = 4 ∧ s.x.term = T ∧ s.left = 1 ∧ (s.over T).tick n = { s with x := { s.x with ticks := s.x.ticks + 1, ws := leads k T n }, xs := tickL k 8 s.xs, left := 2 }) ∨
     (s.x.role = 4 ∧ s.x.term = T ∧ s.left = 2 ∧ (s.over T).tick n = { s with x := { s.x with ticks := s.x.ticks + 1 }, xs := tickL k 8 s.xs, left := 1 }) ∨
     (∃ l, (l = 1 ∨ l = 2) ∧
      ((s.x.role = 0 ∧ s.alive = true ∧ (s.over T).tick n = { s with x := { s.x with ticks := s.x.ticks + 1 }, xs := tickL k 8 s.xs, left := l }) ∨
       (k + 1 < n ∧ ((s.x.role = 0 ∧ s.alive = false) ∨ (s.x.role = 2 ∧ s.x.ticks = 3)) ∧ (s.over T).tick n = { s with x := { s.x with role := 1, ticks := 0, ws := els n k }, xs := tickL k 8 s.xs, left := l }) ∨
       (k + 1 = n ∧ ((s.x.role = 0 ∧ s.alive = false) ∨ (s.x.role = 2 ∧ s.x.ticks = 3)) ∧ (s.over T).tick n = { s with x := { s.x with role := 3, ticks := 0 }, xs := tickL k 8 s.xs, left := l }) ∨
       (k + 1 < n ∧ s.x.role = 4 ∧ s.x.term < T ∧ (s.over T).tick n = { s with x := { s.x with term := T, lead := -1, role := 1, ticks := 0, ws := els n k }, xs := tickL k 8 s.xs, left := l }) ∨
       (k + 1 = n ∧ s.x.role = 4 ∧ s.x.term < T ∧ (s.over T).tick n = { s with x := { s.x with term := T, lead := -1, role := 3, ticks := 0 }, xs := tickL k 8 s.xs, left := l }) ∨
       (s.x.role = 1 ∧ s.x.ticks = 1 ∧ (s.over T).tick n = { s with x := { s.x with role := 3, ticks := 0 }, xs := tickL k 8 s.xs, left := l }) ∨
       (s.x.role = 1 ∧ s.x.ticks = 0 ∧ (s.over T).tick n = { s with x := { s.x with ticks := 1 }, xs := tickL k 8 s.xs, left := l }) ∨
       (s.x.role = 2 ∧ s.x.ticks ≤ 2 ∧ (s.over T).tick n = { s with x := { s.x with ticks := s.x.ticks + 1 }, xs := tickL k 8 s.xs, left := l })))) := by
  rcases over_cases g (by omega) with ⟨r4, rt, e⟩ | ⟨hno, e⟩
  · have g' := g.over (by omega) h0
    have h3' : (s.over T).x.role ≠ 3 := by rw [e]; simp
    have ha : (s.over T).alive = false := by rw [e]; simp [PN.alive, aliveB, inR]
    refine ⟨g'.tick hk h3', ?_, .inr (.inr ?_)⟩
    · rcases g'.tick_cases hk h3' with ⟨r, h, q⟩ | ⟨r, h, q⟩ | ⟨l, hl, -, ⟨r, h, q⟩ | ⟨hr, ⟨-, q⟩ | ⟨-, q⟩⟩ | ⟨r, h, q⟩ | ⟨r, h, q⟩ | ⟨r, h, q⟩⟩ <;> rw [q] <;> rw [e]
    · rcases g'.tick_cases hk h3' with ⟨r, h, q⟩ | ⟨r, h, q⟩ | ⟨l, hl, -, ⟨r, h, q⟩ | ⟨hr, ⟨hl1, q⟩ | ⟨hl1, q⟩⟩ | ⟨r, h, q⟩ | ⟨r, h, q⟩ | ⟨r, h, q⟩⟩
      · rw [e] at r; simp at r
      · rw [e] at r; simp at r
      · rw [ha] at h; cases h
      · exact ⟨l, hl, .inr (.inr (.inr (.inl ⟨hl1, r4, rt, by rw [q, e]; simp [hw]⟩)))⟩
      · exact ⟨l, hl, .inr (.inr (.inr (.inr (.inl ⟨hl1, r4, rt, by rw [q, e]⟩))))⟩
      · rw [e] at r; simp at r
      · rw [e] at r; simp at r
      · rw [e] at r; simp at r
  · rw [e]
    have ht := g.t1
    refine ⟨g.tick hk h3, ?_, ?_⟩
    · rcases g.tick_cases hk h3 with ⟨r, h, q⟩ | ⟨r, h, q⟩ | ⟨l, hl, -, ⟨r, h, q⟩ | ⟨hr, ⟨-, q⟩ | ⟨-, q⟩⟩ | ⟨r, h, q⟩ | ⟨r, h, q⟩ | ⟨r, h, q⟩⟩ <;> rw [q]
    · rcases g.tick_cases hk h3 with ⟨r, h, q⟩ | ⟨r, h, q⟩ | ⟨l, hl, -, ⟨r, h, q⟩ | ⟨hr, ⟨hl1, q⟩ | ⟨hl1, q⟩⟩ | ⟨r, h, q⟩ | ⟨r, h, q⟩ | ⟨r, h, q⟩⟩
      · have hT' : s.x.term = T := by omega
        exact .inl ⟨r, hT', h, by rw [q, hw, hT']; simp⟩
      · exact .inr (.inl ⟨r, by omega, h, q⟩)
      · exact .inr (.inr ⟨l, hl, .inl ⟨r, h, q⟩⟩)
      · exact .inr (.inr ⟨l, hl, .inr (.inl ⟨hl1, hr, by rw [q, hw]; simp⟩)⟩)
      · exact .inr (.inr ⟨l, hl, .inr (.inr (.inl ⟨hl1, hr, q⟩))⟩)
      · exact .inr (.inr ⟨l, hl, .inr (.inr (.inr (.inr (.inr (.inl ⟨r, h, q⟩)))))⟩)
      · exact .inr (.inr ⟨l, hl, .inr (.inr (.inr (.inr (.inr (.inr (.inl ⟨r, h, q⟩))))))⟩)
      · exact .inr (.inr ⟨l, hl, .inr (.inr (.inr (.inr (.inr (.inr (.inr ⟨r, h, q⟩))))))⟩)
/-- What a node says at a tick. -/
theorem ot_ws {T : Int} {s : PN} (g : Gn n k T s) (hk : k < n) (hT : T ≤ 1000000) (h0 : 0 ≤ T) (h3 : s.x.role ≠ 3) (hw : s.x.ws = []) :
    ∀ y ∈ ((s.over T).tick n).x.ws, (s.x.role = 4 ∧ s.x.term = T ∧ s.left = 1 ∧ ∃ j, j < n ∧ j ≠ k ∧ y = ldW k j T) ∨ (∃ j, k < j ∧ j < n ∧ y = elW k j) := by
  intro y hy
  obtain ⟨-, -, ⟨r, ht, h, e⟩ | ⟨r, ht, h, e⟩ | ⟨l, hl, ⟨r, h, e⟩ | ⟨hl1, hr, e⟩ | ⟨hl1, hr, e⟩ | ⟨hl1, r, h, e⟩ | ⟨hl1, r, h, e⟩ | ⟨r, h, e⟩ | ⟨r, h, e⟩ | ⟨r, h, e⟩⟩⟩ := ot_cases g hk hT h0 h3 hw <;> rw [e] at hy <;> simp only [hw] at hy
  · exact .inl ⟨r, ht, h, lds_mem.1 hy⟩
  · cases hy
  · cases hy
  · exact .inr (els_mem.1 hy)
  · cases hy
  · exact .inr (els_mem.1 hy)
  · cases hy
  · cases hy
  · cases hy
  · cases hy
theorem ot_role4 {T : Int} {s : PN} (g : Gn n k T s) (hk : k < n) (hT : T ≤ 1000000) (h0 : 0 ≤ T) (h3 : s.x.role ≠ 3) (hw : s.x.ws = []) (h4 : ((s.over T).tick n).x.role = 4) :
    s.x.role = 4 ∧ s.x.term = T ∧ ((s.over T).tick n).x.term = T := by
  obtain ⟨-, -, ⟨r, ht, h, e⟩ | ⟨r, ht, h, e⟩ | ⟨l, hl, ⟨r, h, e⟩ | ⟨hl1, hr, e⟩ | ⟨hl1, hr, e⟩ | ⟨hl1, r, h, e⟩ | ⟨hl1, r, h, e⟩ | ⟨r, h, e⟩ | ⟨r, h, e⟩ | ⟨r, h, e⟩⟩⟩ := ot_cases g hk hT h0 h3 hw <;> rw [e] at h4 ⊢ <;> simp at h4 ⊢
  · first | exact ⟨r, ht, ht⟩ | exact ht | exact ⟨r, ht⟩
  · first | exact ⟨r, ht, ht⟩ | exact ht | exact ⟨r, ht⟩
  all_goals (exfalso; omega)
theorem G.tickU (h : G n U t []) (r : Rs n t) (hT : t.T ≤ 1000000) : G n U (tickU n U t) [] := by
  have h0 := h.T0
  refine ⟨fun k hk => ?_, fun j k hj hk hrj hrk he => ?_, fun y hy => ?_, fun k hk y hy => ?_, h0⟩
  · cases hU : U k
    · rw [tickU_not hU]; exact h.g k hk
    · rw [tickU_b hk hU]; exact (ot_cases (h.g k hk) hk hT h0 (r.r k hk) (r.w k hk)).1
  · have key : ∀ j, j < n → ((Ytccmnphjiebiaaa.tickU n U t).b j).x.role = 4 → (t.b j).x.role = 4 ∧ (t.b j).x.term = ((Ytccmnphjiebiaaa.tickU n U t).b j).x.term := by
      intro j hj h4
      cases hU : U j
      · rw [tickU_not hU] at h4 ⊢; exact ⟨h4, rfl⟩
      · rw [tickU_b hj hU] at h4 ⊢
        obtain ⟨a, b, c⟩ := ot_role4 (h.g j hj) hj hT h0 (r.r j hj) (r.w j hj) h4
        exact ⟨a, by rw [b, c]⟩
    obtain ⟨a1, a2⟩ := key j hj hrj
    obtain ⟨b1, b2⟩ := key k hk hrk
    exact h.u j k hj hk a1 b1 (by rw [a2, b2]; exact he)
  · rcases hy with hy | hy | ⟨k, hk, hU, hy⟩
    · cases hy
    · rw [show (Ytccmnphjiebiaaa.tickU n U t).l = [] from r.l] at hy; cases hy
    · rw [tickU_b hk hU] at hy
      rcases ot_ws (h.g k hk) hk hT h0 (r.r k hk) (r.w k hk) y hy with ⟨a, b, -, j, h1, h2, rfl⟩ | ⟨j, h1, h2, rfl⟩
      · exact ⟨k, j, rfl, rfl, hk, h1, hU, .inr (.inr ⟨rfl, fun e => h2 e.symm, by show 1 ≤ t.T; have := (h.g k hk).r4 a; omega, Int.le_refl _⟩)⟩
      · exact ⟨k, j, rfl, rfl, hk, h2, hU, .inl ⟨rfl, h1, rfl⟩⟩
  · cases hU : U k
    · rw [tickU_not hU, r.w k hk] at hy; cases hy
    · rw [tickU_b hk hU] at hy
      refine ⟨rfl, ?_⟩
      rcases ot_ws (h.g k hk) hk hT h0 (r.r k hk) (r.w k hk) y hy with ⟨-, -, -, j, h1, h2, rfl⟩ | ⟨j, h1, h2, rfl⟩ <;> rfl
theorem put_b (h : U k = false) : (put1 n U t w).b k = t.b k := by
  unfold put1
  split
  next hc =>
    refine Tw.set_ne _ _ (fun e => ?_)
    subst e
    rw [h] at hc
    exact absurd hc.2.2 (by simp)
  · rfl
theorem puts_b (h : U k = false) : ∀ (l : List Wd) (t : Tw), (puts n U t l).b k = t.b k
  | [], t => rfl
  | w :: l, t => (puts_b h l (put1 n U t w)).trans (put_b h)
theorem gat1_b {j : Nat} (h : j ≠ k) : (gat1 n t j).b k = t.b k := by
  unfold gat1
  split <;> exact Tw.set_ne _ _ (Ne.symm h)
theorem gathN_b (h : U k = false) : ∀ j, (gathN n U t j).b k = t.b k
  | 0 => rfl
  | j + 1 => by
    unfold gathN
    split
    next hu => rw [gat1_b (fun e => by subst e; rw [h] at hu; cases hu)]; exact gathN_b h j
    · exact gathN_b h j
theorem dlv_b (h : U k = false) : ∀ f (t : Tw), (dlv n U f t).b k = t.b k
  | 0, t => rfl
  | f + 1, t => by
    unfold dlv
    split
    · rfl
    · rw [dlv_b h f]; unfold dlv1 gath; rw [gathN_b h, puts_b h]
/-- Behind a gather nothing waits in a node that is up, and none wants a claim. -/
theorem gathN_rs (h : G n U t []) : ∀ j, j ≤ n → t.T + j ≤ 1000000 → ∀ k, k < j → U k = true → ((gathN n U t j).b k).x.ws = [] ∧ ((gathN n U t j).b k).x.role ≠ 3
  | 0, _, _, k, hk, _ => by omega
  | j + 1, hj, hT, k, hk, hU => by
    obtain ⟨a, -, b, c⟩ := gathN_ind (Inv := fun _ _ => True) (fun _ _ _ _ _ _ _ => trivial) h trivial j (by omega) (by omega)
    unfold gathN
    by_cases e : k = j
    · subst e
      rw [if_pos hU]
      exact gat_self a (by omega) (by omega)
    · have ih := gathN_rs h j (by omega) (by omega) k (by omega) hU
      split
      · rw [gat1_b (Ne.symm e)]; exact ih
      · exact ih
structure Rb (n : Nat) (t : Tw) : Prop where
  w : ∀ k, k < n → (t.b k).x.ws = []
  r : ∀ k, k < n → (t.b k).x.role ≠ 3
theorem gath_rb (h : G n U t []) (hT : t.T + n ≤ 1000000) (hn : ∀ k, k < n → U k = false → (t.b k).x.ws = [] ∧ (t.b k).x.role ≠ 3) : Rb n (gath n U t) := by
  have key : ∀ k, k < n → ((gath n U t).b k).x.ws = [] ∧ ((gath n U t).b k).x.role ≠ 3 := by
    intro k hk
    cases hU : U k
    · unfold gath; rw [gathN_b hU]; exact hn k hk hU
    · exact gathN_rs h n (Nat.le_refl _) hT k hk hU
  exact ⟨fun k hk => (key k hk).1, fun k hk => (key k hk).2⟩
theorem dlv1_g (h : G n U t []) (hT : t.T + n ≤ 1000000) : G n U (dlv1 n U t) [] ∧ t.T ≤ (dlv1 n U t).T ∧ (dlv1 n U t).T ≤ t.T + n := by
  obtain ⟨a, -, b⟩ := dlv1_ind (Inv := fun _ _ => True) (fun _ _ _ _ _ _ => trivial) (fun _ _ _ _ _ _ _ => trivial) (fun _ _ => trivial) h trivial hT
  exact ⟨a, b⟩
theorem dlv1_rb (h : G n U t []) (hT : t.T + n ≤ 1000000) (hb : Rb n t) : Rb n (dlv1 n U t) := by
  obtain ⟨a, -, c⟩ := puts_ind (Inv := fun _ _ => True) (fun _ _ _ _ _ _ => trivial) t.l { t with l := [] } (by show t.T ≤ _; omega) h.move trivial
  refine gath_rb a (by rw [c]; exact hT) (fun k hk hU => ?_)
  rw [puts_b hU]
  exact ⟨hb.w k hk, hb.r k hk⟩
/-- Words of Elect climb. -/
theorem dlv1_em {i : Nat} (h : G n U t []) (hT : t.T + n ≤ 1000000) (hb : Rb n t) (he : ∀ y ∈ t.l, y.k = 1 → (i : Int) ≤ y.f) : ∀ y ∈ (dlv1 n U t).l, y.k = 1 → ((i + 1 : Nat) : Int) ≤ y.f := by
  obtain ⟨a, b, c⟩ := puts_ind (U := U) (Inv := fun t cur => (∀ y ∈ cur, y.k = 1 → (i : Int) ≤ y.f) ∧ (∀ y, pend n U t [] y → y.k = 1 → ((i + 1 : Nat) : Int) ≤ y.f)) (fun t w cur hT h ⟨h1, h2⟩ => by
    refine ⟨fun y hy => h1 y (List.mem_cons_of_mem _ hy), ?_⟩
    rcases put_cases h with ⟨e, -⟩ | ⟨k, hk, hU, hw, e⟩ <;> rw [e]
    · exact h2
    · obtain ⟨nw, hnw, -, hnew⟩ := (h.g k hk).take_new (by omega) hk (h.w w (pend_cons.2 (.inl rfl))) hw
      intro y hy hy1
      rcases (pend_set hk hU hnw).1 hy with hy | hy
      · exact h2 y hy hy1
      · rcases hnew y hy with ⟨f, hw', h3, h4, rfl⟩ | ⟨f, t', hw', h3, h4, h5, rfl⟩
        · cases hy1
        · have := h1 w (List.mem_cons_self ..) (by rw [hw']; rfl)
          rw [hw'] at this
          simp only [elW] at this ⊢
          omega) t.l { t with l := [] } (by show t.T ≤ _; omega) h.move ⟨he, fun y hy => by
      rcases hy with hy | hy | ⟨k, hk, hU, hy⟩
      · cases hy
      · cases hy
      · rw [show (({ t with l := [] } : Tw).b k) = t.b k from rfl, hb.w k hk] at hy; cases hy⟩
  obtain ⟨-, b2, -⟩ := gath_ind (Inv := fun t cur => ∀ y, pend n U t [] y → y.k = 1 → ((i + 1 : Nat) : Int) ≤ y.f) (fun t k hk hU hT h hi => by
    intro y hy hy1
    rcases gat_cases h hT hk with ⟨h3, e⟩ | ⟨h3, ht, e⟩ | ⟨h3, ht, e⟩ <;> rw [e] at hy <;> rcases (pend_flush hk hU rfl).1 hy with hy | hy
    · exact hi y hy hy1
    · cases hy
    · exact hi y hy hy1
    · obtain ⟨j, -, -, rfl⟩ := lds_mem.1 hy; cases hy1
    · exact hi y hy hy1
    · cases hy) a b.2 (by rw [c]; exact hT)
  exact fun y hy => b2 y (.inr (.inl hy))
theorem puts_none (hb : Rb n t) (h : G n U t cur) (hT : t.T ≤ 1000000) (hl : t.l = []) (he : ∀ y ∈ cur, y.k ≠ 1) : G n U (puts n U t cur) [] ∧ ((puts n U t cur).l = [] ∧ Rb n (puts n U t cur)) ∧ (puts n U t cur).T = t.T := by
  obtain ⟨a, b, c⟩ := puts_ind (U := U) (Inv := fun t cur => (∀ y ∈ cur, y.k ≠ 1) ∧ t.l = [] ∧ Rb n t) (fun t w cur hT h ⟨h1, h2, h3⟩ => by
    refine ⟨fun y hy => h1 y (List.mem_cons_of_mem _ hy), by rw [(put_T t w).2]; exact h2, ?_⟩
    rcases put_cases h with ⟨e, -⟩ | ⟨k, hk, hU, hw, e⟩ <;> rw [e]
    · exact h3
    · have hw1 := h1 w (List.mem_cons_self ..)
      obtain ⟨f, -, -, -, hh⟩ := (h.g k hk).take_cases (by omega) hk (h.w w (pend_cons.2 (.inl rfl))) hw
      have key : ((t.b k).take w).x.ws = [] ∧ ((t.b k).take w).x.role ≠ 3 := by
        have q1 := h3.w k hk
        have q2 := h3.r k hk
        rcases hh with ⟨hw', -⟩ | ⟨-, -, ⟨h0, e⟩ | ⟨h0, e⟩⟩ | ⟨m, -, hm1, hm2, ⟨h0, e⟩ | ⟨h0, e⟩⟩
        · rw [hw'] at hw1; exact absurd rfl hw1
        · rw [e]; exact ⟨q1, by simp⟩
        · rw [e]; exact ⟨q1, q2⟩
        · rw [e]; exact ⟨q1, by simp⟩
        · rw [e]; exact ⟨q1, q2⟩
      refine ⟨fun j hj => ?_, fun j hj => ?_⟩
      · by_cases ej : j = k
        · subst ej; rw [Tw.set_same]; exact key.1
        · rw [Tw.set_ne _ _ ej]; exact h3.w j hj
      · by_cases ej : j = k
        · subst ej; rw [Tw.set_same]; exact key.2
        · rw [Tw.set_ne _ _ ej]; exact h3.r j hj) cur t hT h ⟨he, hl, hb⟩
  exact ⟨a, b.2, c⟩
theorem gath_none (h : G n U t []) (hT : t.T + n ≤ 1000000) (hb : Rb n t) (hl : t.l = []) : (gath n U t).l = [] := by
  obtain ⟨-, b, -⟩ := gath_ind (U := U) (Inv := fun t _ => t.l = [] ∧ Rb n t) (fun t k hk hU hT h ⟨h1, h2⟩ => by
    rcases gat_cases h hT hk with ⟨h3, e⟩ | ⟨h3, ht, e⟩ | ⟨h3, ht, e⟩
    · rw [e]
      refine ⟨by simp [h1, h2.w k hk], fun j hj => ?_, fun j hj => ?_⟩
      · show ((t.set k _).b j).x.ws = []
        by_cases ej : j = k
        · subst ej; rw [Tw.set_same]
        · rw [Tw.set_ne _ _ ej]; exact h2.w j hj
      · show ((t.set k _).b j).x.role ≠ 3
        by_cases ej : j = k
        · subst ej; rw [Tw.set_same]; exact h2.r j hj
        · rw [Tw.set_ne _ _ ej]; exact h2.r j hj
    · exact absurd h3 (h2.r k hk)
    · exact absurd h3 (h2.r k hk)) h ⟨hl, hb⟩ hT
  exact b.1
/-- Nothing is on its way in the end. -/
theorem dlv_em : ∀ (f i : Nat) (t : Tw), n ≤ i + (f + 1) → t.T + ((f + 1 : Nat) : Int) * n ≤ 1000000 → G n U t [] → Rb n t → (∀ y ∈ t.l, y.k = 1 → (i : Int) ≤ y.f) → (dlv n U (f + 1) t).l = [] ∧ Rb n (dlv n U (f + 1) t) := by
  intro f
  induction f with
  | zero =>
    intro i t hn hT h hb he
    have hT1 : t.T + n ≤ 1000000 := by simpa using hT
    unfold dlv
    split
    · exact ⟨‹_›, hb⟩
    · have hne : ∀ y ∈ t.l, y.k ≠ 1 := fun y hy hy1 => by
        have h1 := he y hy hy1
        obtain ⟨f, t', a, b, c, d, -, q⟩ := h.w y (.inr (.inl hy))
        rcases q with ⟨-, q, -⟩ | ⟨q, -⟩ | ⟨q, -⟩ <;> omega
      obtain ⟨a, ⟨b1, b2⟩, c⟩ := puts_none (t := { t with l := [] }) ⟨hb.w, hb.r⟩ h.move (by show t.T ≤ _; omega) rfl hne
      have c' : (puts n U { t with l := [] } t.l).T = t.T := c
      exact ⟨gath_none a (by rw [c']; exact hT1) b2 b1, dlv1_rb h hT1 hb⟩
  | succ f ih =>
    intro i t hn hT h hb he
    have hmul : ((f + 1 + 1 : Nat) : Int) * n = ((f + 1 : Nat) : Int) * n + n := by rw [Int.natCast_add, Int.add_mul]; simp
    have hpos : (0 : Int) ≤ ((f + 1 : Nat) : Int) * n := Int.mul_nonneg (by omega) (by omega)
    rw [hmul] at hT
    unfold dlv
    split
    · exact ⟨‹_›, hb⟩
    · obtain ⟨a, b, c⟩ := dlv1_g h (by omega)
      exact ih (i + 1) _ (by omega) (by omega) a (dlv1_rb h (by omega) hb) (dlv1_em h (by omega) hb he)
/-- A round keeps a good town at rest. -/
theorem round_base (h : G n U t []) (r : Rs n t) (hn : n ≤ 5) (hT : t.T ≤ 900000) : G n U (round n U t) [] ∧ Rs n (round n U t) ∧ t.T ≤ (round n U t).T ∧ (round n U t).T ≤ t.T + 105 := by
  have h1 := h.tickU r (by omega)
  have hT1 : (tickU n U t).T = t.T := rfl
  obtain ⟨a, -, b, c⟩ := gath_ind (Inv := fun _ _ => True) (fun _ _ _ _ _ _ _ => trivial) h1 trivial (by rw [hT1]; omega)
  have hb : Rb n (gath n U (tickU n U t)) := gath_rb h1 (by rw [hT1]; omega) (fun k hk hU => by rw [tickU_not hU]; exact ⟨r.w k hk, r.r k hk⟩)
  obtain ⟨d, -, e, f⟩ := dlv_ind (Inv := fun _ _ => True) (fun _ _ _ _ _ _ => trivial) (fun _ _ _ _ _ _ _ => trivial) (fun _ _ => trivial) 20 (gath n U (tickU n U t)) (by omega) a trivial
  obtain ⟨q1, q2⟩ := dlv_em 19 0 (gath n U (tickU n U t)) (by omega) (by omega) a hb (fun y hy _ => by
    obtain ⟨f, t', h1, -⟩ := a.w y (.inr (.inl hy)); omega)
  unfold round
  exact ⟨d, ⟨q1, q2.w, q2.r⟩, by omega, by omega⟩
end
end Go.Proofs.Ytccmnphjiebiaaa
