/- A town: how many words wait, and the acts ahead of the rounds. Plain law. Condition: a good town. -/
import Derived.Test.YtccmnphjiebiaaaTl
namespace Go.Proofs.Ytccmnphjiebiaaa
set_option linter.unusedVariables false
set_option linter.unusedSimpArgs false
def PA (i m n : Nat) (t : Tw) : Prop := ∀ k, k < n → PI i m n (t.b k)
section
variable {n k i m m' : Nat} {U : Nat → Bool} {t : Tw} {s : PN} {w y : Wd} {cur : List Wd}
theorem PI.tight (q : PI i m n s) (h : s.x.ws.length ≤ m') : PI i m' n s :=
  ⟨⟨q.bd.xn, q.bd.s0, q.bd.s1, q.bd.w0, q.bd.w1, q.bd.t0, q.bd.t1, h, q.bd.l0, q.bd.l1, q.bd.r0, q.bd.r1, q.bd.ld⟩, q.tk, q.xb, q.l0, q.l1, q.f0, q.f1, q.e0, q.e1, q.n8⟩
theorem PA.more {i' : Nat} (h : PA i m n t) (hi : i ≤ i') (hm : m ≤ m') : PA i' m' n t := fun k hk => (h k hk).more hi hm
theorem PA.rest (h : PA i m n t) (r : Rb n t) : PA i 0 n t := fun k hk => (h k hk).tight (by rw [r.w k hk]; exact Nat.le_refl _)
theorem PA.set (h : PA i m n t) (hs : PI i m n s) : PA i m n (t.set k s) := fun j hj => by
  by_cases e : j = k
  · subst e; rw [Tw.set_same]; exact hs
  · rw [Tw.set_ne _ _ e]; exact h j hj
theorem PI.claims (q : PI i m n s) (T : Int) : PI i (m + 8) n (s.claims n T) := q.claim _ _
theorem PA.gat (h : PA i m n t) (hk : k < n) : PA i m n (gat1 n t k) := by
  unfold gat1
  split
  · exact fun j hj => (PA.set h (s := ((t.b k).claims n t.T).out) (((h k hk).claims _).out.more (Nat.le_refl _) (by omega)) : PA i m n (t.set k _)) j hj
  · exact fun j hj => (PA.set h (s := (t.b k).out) ((h k hk).out.more (Nat.le_refl _) (by omega)) : PA i m n (t.set k _)) j hj
theorem PA.gathN (h : PA i m n t) : ∀ j, j ≤ n → PA i m n (gathN n U t j)
  | 0, _ => h
  | j + 1, hj => by
    unfold Ytccmnphjiebiaaa.gathN
    split
    · exact (PA.gathN h j (by omega)).gat (by omega)
    · exact PA.gathN h j (by omega)
theorem PA.gath (h : PA i m n t) : PA i m n (gath n U t) := h.gathN n (Nat.le_refl _)
theorem PA.tickU (h : PA i m n t) : PA (i + 1) (m + 16) n (tickU n U t) := fun k hk => by
  cases hU : U k
  · rw [tickU_not hU]; exact (h k hk).more (by omega) (by omega)
  · rw [tickU_b hk hU]; exact ((h k hk).over _).tick
def wsum (t : Tw) : Nat → Nat
  | 0 => 0
  | j + 1 => wsum t j + (t.b j).x.ws.length
theorem wsum_out (t : Tw) (s : PN) : ∀ j, j ≤ k → wsum (t.set k s) j = wsum t j
  | 0, _ => rfl
  | j + 1, hj => by
    unfold wsum
    rw [wsum_out t s j (by omega), Tw.set_ne _ _ (by omega)]
theorem wsum_set (t : Tw) (s : PN) : ∀ j, k < j → wsum (t.set k s) j + (t.b k).x.ws.length = wsum t j + s.x.ws.length
  | 0, hj => by omega
  | j + 1, hj => by
    unfold wsum
    by_cases e : k = j
    · subst e
      rw [wsum_out t s k (Nat.le_refl _), Tw.set_same]
      omega
    · rw [Tw.set_ne _ _ (Ne.symm e)]
      have := wsum_set t s j (by omega)
      omega
theorem wsum_rb (r : Rb n t) : ∀ j, j ≤ n → wsum t j = 0
  | 0, _ => rfl
  | j + 1, hj => by
    unfold wsum
    rw [wsum_rb r j (by omega), r.w j (by omega)]
    rfl
theorem wsum_le (h : ∀ k, k < n → (t.b k).x.ws.length ≤ m) : ∀ j, j ≤ n → wsum t j ≤ j * m
  | 0, _ => by simp [wsum]
  | j + 1, hj => by
    unfold wsum
    have := wsum_le h j (by omega)
    have := h j (by omega)
    rw [Nat.add_mul]
    omega
theorem len_gat (h : PA i m n t) (hk : k < n) : (gat1 n t k).l.length ≤ t.l.length + (t.b k).x.ws.length + 8 := by
  unfold gat1
  split
  · have := (((h k hk).tight (m' := (t.b k).x.ws.length) (Nat.le_refl _)).claims t.T).bd.wl
    simp only [List.length_append]
    omega
  · simp only [List.length_append]; omega
theorem gathN_hi : ∀ j, ∀ k, j ≤ k → (gathN n U t j).b k = t.b k
  | 0, _, _ => rfl
  | j + 1, k, hk => by
    unfold gathN
    split
    · rw [gat1_b (by omega)]; exact gathN_hi j k (by omega)
    · exact gathN_hi j k (by omega)
theorem len_gathN (h : PA i m n t) : ∀ j, j ≤ n → (gathN n U t j).l.length ≤ t.l.length + wsum t j + 8 * j
  | 0, _ => by simp [gathN, wsum]
  | j + 1, hj => by
    have ih := len_gathN h j (by omega)
    unfold gathN wsum
    split
    · have := len_gat (h.gathN (U := U) j (by omega)) (show j < n by omega)
      rw [gathN_hi j j (Nat.le_refl _)] at this
      omega
    · omega
/-- Words, one after another: how many wait then. -/
theorem puts_pa (hn : n ≤ 5) (c : Nat) : ∀ (A : List Wd) (t : Tw), t.T ≤ 1000000 → G n U t (A ++ cur) → PA i c n t → PA i (c + 5 * A.length) n (puts n U t A) ∧ wsum (puts n U t A) n ≤ wsum t n + 5 * A.length
  | [], t, _, _, h => ⟨h, by simp [puts]⟩
  | w :: A, t, hT, hG, h => by
    have hstep : PA i (c + 5) n (put1 n U t w) ∧ wsum (put1 n U t w) n ≤ wsum t n + 5 := by
      rcases put_cases hG with ⟨e, -⟩ | ⟨k, hk, hU, hw, e⟩ <;> rw [e]
      · exact ⟨h.more (Nat.le_refl _) (by omega), by omega⟩
      · obtain ⟨nw, hnw, hl, -⟩ := (hG.g k hk).take_new (by omega) hk (hG.w w (pend_cons.2 (.inl rfl))) hw
        have hlen : ((t.b k).take w).x.ws.length ≤ (t.b k).x.ws.length + 5 := by rw [hnw, List.length_append]; omega
        have hwl := (h k hk).bd.wl
        refine ⟨(h.more (Nat.le_refl _) (by omega)).set (((h k hk).take w).tight (by omega)), ?_⟩
        have := wsum_set t ((t.b k).take w) n hk
        omega
    obtain ⟨a, b⟩ := puts_pa hn (c + 5) A (put1 n U t w) (by rw [(put_T t w).1]; exact hT) (hG.put hT) hstep.1
    refine ⟨a.more (Nat.le_refl _) (by simp only [List.length_cons]; omega), ?_⟩
    simp only [List.length_cons]
    show wsum (puts n U (put1 n U t w) A) n ≤ _
    omega
def bn : Nat → Nat
  | 0 => 120
  | i + 1 => 5 * bn i + 40
/-- Words of the j-th delivery. -/
structure Bl (n : Nat) (U : Nat → Bool) (j : Nat) (t : Tw) : Prop where
  e : ∀ y ∈ t.l, y.k = 1 → (j : Int) ≤ y.f
  l : j ≤ 4 → t.l.length ≤ bn j
  z : 5 ≤ j → t.l = []
theorem bn_le {j : Nat} (h : j ≤ 4) : bn j ≤ 81240 := by
  have : j = 0 ∨ j = 1 ∨ j = 2 ∨ j = 3 ∨ j = 4 := by omega
  rcases this with rfl | rfl | rfl | rfl | rfl <;> decide
theorem Bl.step {j : Nat} (hn : n ≤ 5) (h : G n U t []) (hT : t.T + n ≤ 1000000) (hb : Rb n t) (hp : PA i 0 n t) (hl : Bl n U j t) (hj : j ≤ 4) : Bl n U (j + 1) (dlv1 n U t) := by
  refine ⟨dlv1_em h hT hb hl.e, fun hj' => ?_, fun hj' => ?_⟩
  · obtain ⟨a, b⟩ := puts_pa (U := U) (i := i) (cur := []) hn 0 t.l { t with l := [] } (by show t.T ≤ _; omega) (by rw [List.append_nil]; exact h.move) hp
    have hz : wsum ({ t with l := [] } : Tw) n = 0 := wsum_rb (t := { t with l := [] }) ⟨hb.w, hb.r⟩ n (Nat.le_refl _)
    have hlen := len_gathN (U := U) a n (Nat.le_refl _)
    have hpl : (puts n U { t with l := [] } t.l).l = [] := by
      have : ∀ (A : List Wd) (t : Tw), (puts n U t A).l = t.l := by
        intro A
        induction A with
        | nil => intro t; rfl
        | cons w A ih => intro t; exact (ih (put1 n U t w)).trans (put_T t w).2
      rw [this]
    rw [hpl] at hlen
    have := hl.l hj
    unfold dlv1 gath bn
    simp only [List.length_nil] at hlen
    omega
  · have hne : ∀ y ∈ t.l, y.k ≠ 1 := fun y hy hy1 => by
      have h1 := hl.e y hy hy1
      obtain ⟨f, t', a, b, c, d, -, q⟩ := h.w y (.inr (.inl hy))
      rcases q with ⟨-, q, -⟩ | ⟨q, -⟩ | ⟨q, -⟩ <;> omega
    obtain ⟨a, ⟨b1, b2⟩, c⟩ := puts_none (U := U) (t := { t with l := [] }) ⟨hb.w, hb.r⟩ h.move (by show t.T ≤ _; omega) rfl hne
    have c' : (puts n U { t with l := [] } t.l).T = t.T := c
    exact gath_none a (by rw [c']; exact hT) b2 b1
/-- A single tick, ahead of the rounds. -/
theorem G.tick1 (h : G n U t []) (hk : k < n) (hU : U k = true) (hT : t.T ≤ 1000000) (r : Rb n t) : G n U (t.set k ((t.b k).tick n)) [] := by
  have hg := h.g k hk
  have h3 := r.r k hk
  have hw := r.w k hk
  have hws : ∀ y ∈ ((t.b k).tick n).x.ws, Vw n U t.T y ∧ y.f = k := by
    intro y hy
    rcases hg.tick_cases hk h3 with ⟨r, h, e⟩ | ⟨r, h, e⟩ | ⟨l, hl, -, ⟨r, h, e⟩ | ⟨hr, ⟨-, e⟩ | ⟨-, e⟩⟩ | ⟨r, h, e⟩ | ⟨r, h, e⟩ | ⟨r, h, e⟩⟩ <;> rw [e] at hy <;> simp only [hw, List.nil_append] at hy
    · obtain ⟨j, h1, h2, rfl⟩ := lds_mem.1 hy
      exact ⟨⟨k, j, rfl, rfl, hk, h1, hU, .inr (.inr ⟨rfl, fun e => h2 e.symm, hg.r4 r, hg.t1⟩)⟩, rfl⟩
    · cases hy
    · cases hy
    · obtain ⟨j, h1, h2, rfl⟩ := els_mem.1 hy
      exact ⟨⟨k, j, rfl, rfl, hk, h2, hU, .inl ⟨rfl, h1, rfl⟩⟩, rfl⟩
    · cases hy
    · cases hy
    · cases hy
    · cases hy
  have hr4 : ((t.b k).tick n).x.role = 4 → (t.b k).x.role = 4 ∧ ((t.b k).tick n).x.term = (t.b k).x.term := by
    intro h4
    rcases hg.tick_cases hk h3 with ⟨r, h, e⟩ | ⟨r, h, e⟩ | ⟨l, hl, -, ⟨r, h, e⟩ | ⟨hr, ⟨-, e⟩ | ⟨-, e⟩⟩ | ⟨r, h, e⟩ | ⟨r, h, e⟩ | ⟨r, h, e⟩⟩ <;> rw [e] at h4 ⊢ <;> simp only at h4 ⊢ <;> first | exact ⟨r, rfl⟩ | exact r | exact ⟨r, trivial⟩ | (exfalso; omega)
  have key : ∀ j, ((t.set k ((t.b k).tick n)).b j).x.role = 4 → (t.b j).x.role = 4 ∧ ((t.set k ((t.b k).tick n)).b j).x.term = (t.b j).x.term := by
    intro j h4
    by_cases e : j = k
    · subst e; rw [Tw.set_same] at h4 ⊢; exact hr4 h4
    · rw [Tw.set_ne _ _ e] at h4 ⊢; exact ⟨h4, rfl⟩
  refine ⟨fun j hj => ?_, fun a b ha hb hra hrb he => ?_, fun y hy => ?_, fun j hj y hy => ?_, h.T0⟩
  · show Gn n j t.T _
    by_cases e : j = k
    · subst e; rw [Tw.set_same]; exact hg.tick hk h3
    · rw [Tw.set_ne _ _ e]; exact h.g j hj
  · obtain ⟨a1, a2⟩ := key a hra
    obtain ⟨b1, b2⟩ := key b hrb
    exact h.u a b ha hb a1 b1 (by rw [← a2, ← b2]; exact he)
  · rcases hy with hy | hy | ⟨j, hj, hUj, hy⟩
    · cases hy
    · exact h.w y (.inr (.inl hy))
    · by_cases e : j = k
      · subst e; rw [Tw.set_same] at hy; exact (hws y hy).1
      · rw [Tw.set_ne _ _ e] at hy; exact h.w y (.inr (.inr ⟨j, hj, hUj, hy⟩))
  · by_cases e : j = k
    · subst e; rw [Tw.set_same] at hy; exact ⟨hU, (hws y hy).2⟩
    · rw [Tw.set_ne _ _ e] at hy; exact h.f j hj y hy
theorem G.word (h : G n U t []) (hw : w ∈ t.l) : G n U t [w] :=
  ⟨h.g, h.u, fun y hy => by
    rcases pend_cons.1 hy with e | hy
    · subst e; exact h.w y (.inr (.inl hw))
    · exact h.w y hy, h.f, h.T0⟩
theorem G.less (h : G n U t []) {l : List Wd} (hl : ∀ y ∈ l, y ∈ t.l) : G n U { t with l := l } [] :=
  ⟨h.g, h.u, fun y hy => by
    rcases hy with hy | hy | hy
    · cases hy
    · exact h.w y (.inr (.inl (hl y hy)))
    · exact h.w y (.inr (.inr hy)), h.f, h.T0⟩
/-- All words are lost, and others are up. -/
theorem G.other {V : Nat → Bool} (h : G n U t []) (r : Rb n t) : G n V { t with l := [] } [] := by
  have hw : ∀ j, j < n → ((({ t with l := [] } : Tw).b j)).x.ws = [] := fun j hj => r.w j hj
  refine ⟨h.g, h.u, fun y hy => ?_, fun j hj y hy => ?_, h.T0⟩
  · rcases hy with hy | hy | ⟨j, hj, hUj, hy⟩
    · cases hy
    · cases hy
    · rw [hw j hj] at hy; cases hy
  · rw [hw j hj] at hy; cases hy
/-- The town at its start. -/
def tw0 (n : Nat) : Tw := ⟨fun k => PN.new n k 2 2, [], 0⟩
theorem tw0_g (hn : n ≤ 5) (U : Nat → Bool) : G n U (tw0 n) [] ∧ Rb n (tw0 n) ∧ PA 0 0 n (tw0 n) := by
  have hp : PA 0 0 n (tw0 n) := fun k hk => PI.new n k 2 2 (by simp [nodeB]; omega)
  refine ⟨⟨fun k hk => ?_, fun j k hj hk hr => by simp [tw0, PN.new] at hr, fun y hy => ?_, fun k hk y hy => by simp [tw0, PN.new] at hy, Int.le_refl _⟩, ⟨fun k hk => rfl, fun k hk => by simp [tw0, PN.new]⟩, hp⟩
  · have hx := (hp k hk).xb
    refine ⟨rfl, rfl, rfl, rfl, rfl, .inr rfl, by simp [tw0, PN.new], hx, Int.le_refl _, Int.le_refl _, .inl rfl, ?_, ?_, ?_, ?_, fun _ => ?_⟩
    all_goals simp only [tw0, PN.new]
    all_goals first | (intro h; omega) | omega
  · rcases hy with hy | hy | ⟨k, -, -, hy⟩
    · cases hy
    · simp [tw0] at hy
    · simp [tw0, PN.new] at hy
/-- A town ahead of the rounds. -/
structure Ph1 (n i : Nat) (t : Tw) : Prop where
  g : G n (fun _ => true) t []
  r : Rb n t
  p : PA i 0 n t
  T : t.T ≤ 5 * i
  l : t.l.length ≤ 120 * i
theorem Ph1.after (hn : n ≤ 5) (hi : i ≤ 1000) (hg : G n (fun _ => true) t []) (hp : PA (i + 1) m n t) (hm : m ≤ 16) (hT : t.T ≤ 5 * i) (hl : t.l.length ≤ 120 * i) : Ph1 n (i + 1) (gath n (fun _ => true) t) := by
  obtain ⟨a, -, b, c⟩ := gath_ind (Inv := fun _ _ => True) (fun _ _ _ _ _ _ _ => trivial) hg trivial (by omega)
  have rb : Rb n (gath n (fun _ => true) t) := gath_rb hg (by omega) (fun k hk hU => by cases hU)
  have hlen := len_gathN (U := fun _ => true) hp n (Nat.le_refl _)
  have hws := wsum_le (t := t) (n := n) (m := m) (fun k hk => (hp k hk).bd.wl) n (Nat.le_refl _)
  have hnm : n * m ≤ 5 * 16 := Nat.mul_le_mul hn hm
  exact ⟨a, rb, (hp.gath (U := fun _ => true)).rest rb, by omega, by show (gathN n _ t n).l.length ≤ _; omega⟩
theorem Ph1.tick (h : Ph1 n i t) (hn : n ≤ 5) (hi : i ≤ 1000) (hk : k < n) : Ph1 n (i + 1) (gath n (fun _ => true) (t.set k ((t.b k).tick n))) :=
  Ph1.after hn hi (h.g.tick1 hk rfl (by have := h.T; omega) h.r) (m := 16) ((h.p.more (by omega) (by omega)).set ((h.p k hk).tick)) (Nat.le_refl _) h.T h.l
theorem Ph1.take (h : Ph1 n i t) (hn : n ≤ 5) (hi : i ≤ 1000) (hw : w ∈ t.l) (hk : k < n) (hwt : w.t = k) : Ph1 n (i + 1) (gath n (fun _ => true) (t.set k ((t.b k).take w))) := by
  have hT := h.T
  have hg := (h.g.word hw).put (by omega)
  have e : put1 n (fun _ => true) t w = t.set k ((t.b k).take w) := by
    unfold put1
    rw [if_pos ⟨by omega, by omega, rfl⟩]
    have : w.t.toNat = k := by omega
    rw [this]
  rw [e] at hg
  exact Ph1.after hn hi hg (m := 16) ((h.p.more (by omega) (by omega)).set (((h.p k hk).take w).more (by omega) (by omega))) (Nat.le_refl _) h.T h.l
theorem Ph1.less (h : Ph1 n i t) {l : List Wd} (hl : ∀ y ∈ l, y ∈ t.l) (hlen : l.length ≤ t.l.length) : Ph1 n (i + 1) { t with l := l } :=
  ⟨h.g.less hl, ⟨h.r.w, h.r.r⟩, h.p.more (by omega) (by omega), by have := h.T; show t.T ≤ _; omega, by have := h.l; show l.length ≤ _; omega⟩
theorem Ph1.same (h : Ph1 n i t) : Ph1 n (i + 1) t := ⟨h.g, h.r, h.p.more (by omega) (by omega), by have := h.T; omega, by have := h.l; omega⟩
end
end Go.Proofs.Ytccmnphjiebiaaa
