/- Where a leader's words have come: all that are up follow it, or the greatest asks. Plain law. Condition: m is the greatest that is up, none else claims. -/
import Derived.Test.YtccmnphjiebiaaaTc
namespace Go.Proofs.Ytccmnphjiebiaaa
set_option linter.unusedVariables false
set_option linter.unusedSimpArgs false
/-- Follows L, and heard of it now. -/
def Sd (L : Nat) (T0 : Int) (s : PN) : Prop := s.x.role = 0 ∧ s.x.lead = L ∧ s.x.term = T0 ∧ at_ s.xs L = 0
theorem heard_zero {xs : List Int} {k f : Int} (h : at_ xs k = 0) : at_ (heardR xs f) k = 0 := by
  unfold heardR at_ at *
  split
  · rw [List.getD_eq_getElem?_getD] at h ⊢
    rw [List.getElem?_set]
    split
    · split <;> simp
    · exact h
  · exact h
theorem heard_self {xs : List Int} {n L : Nat} (hl : xs.length = n) (hL : L < n) : at_ (heardR xs L) L = 0 := by
  unfold heardR at_ inR
  rw [if_pos (by simp; omega)]
  rw [List.getD_eq_getElem?_getD, List.getElem?_set]
  simp
  split <;> rfl
section
variable {n m L k : Nat} {U : Nat → Bool} {t : Tw} {w y : Wd} {cur : List Wd} {T0 lm : Int}
theorem puts_append (t : Tw) (a b : List Wd) : puts n U t (a ++ b) = puts n U (puts n U t a) b := by unfold puts; rw [List.foldl_append]
theorem puts_ind2 {Inv : Tw → List Wd → Prop} (P : Wd → Prop) (suf : List Wd) (hp : ∀ t w cur, t.T ≤ 1000000 → P w → G n U t (w :: cur) → Inv t (w :: cur) → Inv (put1 n U t w) cur) :
    ∀ (A : List Wd) (t : Tw), t.T ≤ 1000000 → (∀ y ∈ A, P y) → G n U t (A ++ suf) → Inv t (A ++ suf) → G n U (puts n U t A) suf ∧ Inv (puts n U t A) suf ∧ (puts n U t A).T = t.T
  | [], t, hT, _, h, hi => ⟨h, hi, rfl⟩
  | w :: A, t, hT, hP, h, hi => by
    obtain ⟨a, b, c⟩ := puts_ind2 P suf hp A (put1 n U t w) (by rw [(put_T t w).1]; exact hT) (fun y hy => hP y (List.mem_cons_of_mem _ hy)) (h.put hT) (hp t w _ hT (hP w (List.mem_cons_self ..)) h hi)
    exact ⟨a, b, c.trans (put_T t w).1⟩
theorem puts_leads (t : Tw) (L : Nat) (T0 : Int) : ∀ c, c ≤ n → (puts n U t (leads L T0 c)).l = t.l ∧ (puts n U t (leads L T0 c)).T = t.T ∧ ∀ k, (puts n U t (leads L T0 c)).b k = if k < c ∧ k ≠ L ∧ U k = true then (t.b k).take (ldW L k T0) else t.b k
  | 0, _ => ⟨rfl, rfl, fun k => by rw [if_neg (by omega)]; rfl⟩
  | c + 1, hc => by
    obtain ⟨h1, h2, h3⟩ := puts_leads t L T0 c (by omega)
    unfold leads
    split
    next he =>
      refine ⟨h1, h2, fun k => ?_⟩
      rw [h3]
      by_cases e : k < c
      · by_cases e2 : k ≠ L ∧ U k = true
        · rw [if_pos ⟨e, e2⟩, if_pos ⟨by omega, e2⟩]
        · rw [if_neg (fun h => e2 h.2), if_neg (fun h => e2 h.2)]
      · rw [if_neg (by omega), if_neg]
        rintro ⟨a, b, -⟩
        omega
    next he =>
      rw [puts_append]
      have e1 : ∀ s : Tw, puts n U s [(⟨3, L, c, T0⟩ : Wd)] = put1 n U s (ldW L c T0) := fun s => rfl
      rw [e1]
      have hp : put1 n U (puts n U t (leads L T0 c)) (ldW L c T0) = if U c = true then (puts n U t (leads L T0 c)).set c (((puts n U t (leads L T0 c)).b c).take (ldW L c T0)) else puts n U t (leads L T0 c) := by
        unfold put1
        have : (ldW L c T0).t.toNat = c := by simp [ldW]
        rw [this]
        by_cases hu : U c = true
        · rw [if_pos ⟨by simp [ldW], by simp [ldW]; omega, hu⟩, if_pos hu]
        · rw [if_neg (fun h => hu h.2.2), if_neg hu]
      refine ⟨(put_T _ _).2.trans h1, (put_T _ _).1.trans h2, fun k => ?_⟩
      rw [hp]
      by_cases ek : k = c
      · subst ek
        by_cases hu : U k = true
        · rw [if_pos hu, Tw.set_same, h3, if_neg (by omega), if_pos ⟨by omega, by omega, hu⟩]
        · rw [if_neg hu, h3, if_neg (by omega), if_neg (fun h => hu h.2.2)]
      · have hb : (if U c = true then (puts n U t (leads L T0 c)).set c (((puts n U t (leads L T0 c)).b c).take (ldW L c T0)) else puts n U t (leads L T0 c)).b k = (puts n U t (leads L T0 c)).b k := by
          split
          · exact Tw.set_ne _ _ ek
          · rfl
        rw [hb, h3]
        by_cases e : k < c
        · by_cases e2 : k ≠ L ∧ U k = true
          · rw [if_pos ⟨e, e2⟩, if_pos ⟨by omega, e2⟩]
          · rw [if_neg (fun h => e2 h.2), if_neg (fun h => e2 h.2)]
        · rw [if_neg (by omega), if_neg (by omega)]
theorem gath_split (h : G n U t []) (hT : t.T + n ≤ 1000000) (hl : t.l = []) (hL : L < n) (hU : U L = true) (h3 : (t.b L).x.role ≠ 3) :
    ∃ A B, (gath n U t).l = A ++ (t.b L).x.ws ++ B ∧ ∀ y ∈ A ++ B, y.f ≠ L := by
  have step : ∀ (t : Tw) (k : Nat), G n U t [] → t.T ≤ 1000000 → k < n → ∃ nl, (gat1 n t k).l = t.l ++ ((t.b k).x.ws ++ nl) ∧ (∀ y ∈ (t.b k).x.ws ++ nl, y.f = k) ∧ ((t.b k).x.role ≠ 3 → nl = []) := by
    intro t k h hT hk
    rcases gat_cases h hT hk with ⟨hn3, e⟩ | ⟨hn3, ht, e⟩ | ⟨hn3, ht, e⟩
    · refine ⟨[], by rw [e], fun y hy => ?_, fun _ => rfl⟩
      rw [List.append_nil] at hy; exact (h.f k hk y hy).2
    · refine ⟨leads k (t.T + 1) n, by rw [e], fun y hy => ?_, fun hh => absurd hn3 hh⟩
      rcases List.mem_append.1 hy with hy | hy
      · exact (h.f k hk y hy).2
      · obtain ⟨j, -, -, rfl⟩ := lds_mem.1 hy; rfl
    · refine ⟨[], by rw [e], fun y hy => ?_, fun _ => rfl⟩
      rw [List.append_nil] at hy; exact (h.f k hk y hy).2
  have key : ∀ j, j ≤ n → (j ≤ L → (gathN n U t j).b L = t.b L ∧ ∀ y ∈ (gathN n U t j).l, y.f ≠ L) ∧ (L < j → ∃ A B, (gathN n U t j).l = A ++ (t.b L).x.ws ++ B ∧ ∀ y ∈ A ++ B, y.f ≠ L) := by
    intro j
    induction j with
    | zero => intro _; exact ⟨fun _ => ⟨rfl, by rw [show (gathN n U t 0).l = t.l from rfl, hl]; simp⟩, fun h => by omega⟩
    | succ j ih =>
      intro hj
      obtain ⟨i1, i2⟩ := ih (by omega)
      obtain ⟨a, -, b, c⟩ := gathN_ind (U := U) (Inv := fun _ _ => True) (fun _ _ _ _ _ _ _ => trivial) h trivial j (by omega) (by omega)
      obtain ⟨nl, e1, e2, e3⟩ := step (gathN n U t j) j a (by omega) (by omega)
      unfold gathN
      by_cases hu : U j = true
      · rw [if_pos hu]
        refine ⟨fun hjl => ?_, fun hjl => ?_⟩
        · obtain ⟨p, q⟩ := i1 (by omega)
          refine ⟨by rw [gat1_b (by omega)]; exact p, fun y hy => ?_⟩
          rw [e1] at hy
          rcases List.mem_append.1 hy with hy | hy
          · exact q y hy
          · have := e2 y hy; omega
        · by_cases ej : j = L
          · subst ej
            obtain ⟨p, q⟩ := i1 (Nat.le_refl _)
            refine ⟨(gathN n U t j).l, [], ?_, fun y hy => ?_⟩
            · rw [e1, e3 (by rw [p]; exact h3), p]; simp
            · rw [List.append_nil] at hy; exact q y hy
          · obtain ⟨A, B, p, q⟩ := i2 (by omega)
            refine ⟨A, B ++ (((gathN n U t j).b j).x.ws ++ nl), by rw [e1, p]; simp, fun y hy => ?_⟩
            rw [← List.append_assoc] at hy
            rcases List.mem_append.1 hy with hy | hy
            · exact q y hy
            · have := e2 y hy; omega
      · rw [if_neg hu]
        refine ⟨fun hjl => i1 (by omega), fun hjl => ?_⟩
        have : L < j := by
          rcases Nat.lt_or_ge L j with h | h
          · exact h
          · have : j = L := by omega
            subst this; exact absurd hU hu
        exact i2 this
  exact (key n (Nat.le_refl _)).2 hL
/-- All that are up follow L, nothing of Lead is on its way. -/
structure S2 (n : Nat) (U : Nat → Bool) (L : Nat) (T0 : Int) (t : Tw) (cur : List Wd) : Prop where
  T : t.T = T0
  r : (t.b L).x.role = 4
  tm : (t.b L).x.term = T0
  l : (t.b L).left = 2
  sd : ∀ k, k < n → U k = true → k ≠ L → Sd L T0 (t.b k)
  w : ∀ y, pend n U t cur y → y.k ≠ 3
theorem s_point {A B : List Wd} (h : G n U t []) (hb : Rb n t) (hT : t.T = T0) (hT1 : T0 ≤ 1000000) (hL : L < n) (hU : U L = true) (h4 : (t.b L).x.role = 4) (htm : (t.b L).x.term = T0) (hll : (t.b L).left = 2)
    (hl : t.l = A ++ leads L T0 n ++ B) (hAB : ∀ y ∈ A ++ B, y.f ≠ L) (hw : ∀ y ∈ t.l, y.k = 3 → y.f = L) :
    ∃ t2, G n U t2 B ∧ S2 n U L T0 t2 B ∧ t2.l = [] ∧ puts n U { t with l := [] } t.l = puts n U t2 B ∧ (A = [] → Rb n t2) := by
  have hA3 : ∀ y ∈ A, y.k ≠ 3 := fun y hy h3 => hAB y (List.mem_append_left _ hy) (hw y (by rw [hl]; simp [hy]) h3)
  have hB3 : ∀ y ∈ B, y.k ≠ 3 := fun y hy h3 => hAB y (List.mem_append_right _ hy) (hw y (by rw [hl]; simp [hy]) h3)
  have hm0 := h.move
  rw [hl, List.append_assoc] at hm0
  obtain ⟨g1, i1, T1⟩ := puts_ind2 (U := U) (Inv := fun t cur => (t.b L).x.role = 4 ∧ (t.b L).x.term = T0 ∧ (t.b L).left = 2 ∧ t.l = [] ∧ ∀ k, k < n → ∀ y ∈ (t.b k).x.ws, y.k ≠ 3) (fun y => y.k ≠ 3) (leads L T0 n ++ B) (fun t w cur hT hP h ⟨a, b, c, d, e⟩ => by
    have hv := h.w w (pend_cons.2 (.inl rfl))
    rcases put_cases h with ⟨q, hno⟩ | ⟨k0, hk0, hU0, hw, q⟩ <;> rw [q]
    · exact ⟨a, b, c, d, e⟩
    obtain ⟨nw, hnw, -, hnew⟩ := (h.g k0 hk0).take_new (by omega) hk0 hv hw
    obtain ⟨q1, q2, q3, -⟩ := quiet_word (h.g k0 hk0) hT hk0 hv hw hP
    refine ⟨?_, ?_, ?_, d, fun k hk y hy => ?_⟩
    · by_cases ek : L = k0
      · subst ek; rw [Tw.set_same]; exact q1.2 a
      · rw [Tw.set_ne _ _ ek]; exact a
    · by_cases ek : L = k0
      · subst ek; rw [Tw.set_same, q2]; exact b
      · rw [Tw.set_ne _ _ ek]; exact b
    · by_cases ek : L = k0
      · subst ek; rw [Tw.set_same, q3]; exact c
      · rw [Tw.set_ne _ _ ek]; exact c
    · by_cases ek : k = k0
      · subst ek
        rw [Tw.set_same, hnw] at hy
        rcases List.mem_append.1 hy with hy | hy
        · exact e k hk y hy
        · exact new_quiet hnew y hy
      · rw [Tw.set_ne _ _ ek] at hy; exact e k hk y hy) A { t with l := [] } (by show t.T ≤ _; omega) hA3 hm0 ⟨h4, htm, hll, rfl, fun k hk y hy => by rw [show (({ t with l := [] } : Tw).b k) = t.b k from rfl, hb.w k hk] at hy; cases hy⟩
  have T1' : (puts n U { t with l := [] } A).T = T0 := T1.trans hT
  have hRbA : A = [] → Rb n (puts n U { t with l := [] } A) := fun e => by subst e; exact ⟨hb.w, hb.r⟩
  have hput : puts n U { t with l := [] } t.l = puts n U (puts n U (puts n U { t with l := [] } A) (leads L T0 n)) B := by rw [hl, puts_append, puts_append]
  rw [hput]
  clear hput hl hm0 T1
  generalize puts n U { t with l := [] } A = t1 at g1 i1 T1' hRbA ⊢
  obtain ⟨a, b, c, d, e⟩ := i1
  obtain ⟨g2, -, -⟩ := puts_ind2 (U := U) (Inv := fun _ _ => True) (fun _ => True) B (fun _ _ _ _ _ _ _ => trivial) (leads L T0 n) t1 (by omega) (fun _ _ => trivial) g1 trivial
  obtain ⟨p1, p2, p3⟩ := puts_leads (n := n) (U := U) t1 L T0 n (Nat.le_refl _)
  have hnode : ∀ k, k < n → k ≠ L → U k = true → ((puts n U t1 (leads L T0 n)).b k).x.ws = (t1.b k).x.ws ∧ Sd L T0 ((puts n U t1 (leads L T0 n)).b k) := by
    intro k hk hkL hUk
    rw [p3, if_pos ⟨hk, hkL, hUk⟩]
    have hv : Vw n U t1.T (ldW L k T0) := g1.w _ (.inl (List.mem_append_left _ (lds_mem.2 ⟨k, hk, hkL, rfl⟩)))
    have gk := g1.g k hk
    have gt := gk.t1
    obtain ⟨f, hf, hfk, hUf, hh⟩ := gk.take_cases (by omega) hk hv rfl
    rcases hh with ⟨hw', -⟩ | ⟨hw', -⟩ | ⟨mm, hw', hm1, hm2, ⟨h0, q⟩ | ⟨h0, q⟩⟩
    · simp [ldW, elW] at hw'
    · simp [ldW, ansW] at hw'
    · simp only [ldW, Wd.mk.injEq] at hw'
      obtain ⟨-, hfL, -, rfl⟩ := hw'
      have hfL' : L = f := by omega
      subst hfL'
      rw [q]
      exact ⟨rfl, rfl, rfl, rfl, heard_self gk.xl hf⟩
    · exfalso
      simp only [ldW, Wd.mk.injEq] at hw'
      omega
  have hLb : (puts n U t1 (leads L T0 n)).b L = t1.b L := by rw [p3, if_neg (fun hh => hh.2.1 rfl)]
  have hother : ∀ k, k < n → ((puts n U t1 (leads L T0 n)).b k).x.ws = (t1.b k).x.ws := by
    intro k hk
    by_cases hkL : k = L
    · rw [hkL, hLb]
    · by_cases hUk : U k = true
      · exact (hnode k hk hkL hUk).1
      · rw [p3, if_neg (fun hh => hUk hh.2.2)]
  refine ⟨_, g2, ⟨p2.trans T1', by rw [hLb]; exact a, by rw [hLb]; exact b, by rw [hLb]; exact c, fun k hk hUk hkL => (hnode k hk hkL hUk).2, fun y hy => ?_⟩, p1.trans d, rfl, fun eA => ?_⟩
  · rcases hy with hy | hy | ⟨k, hk, hUk, hy⟩
    · exact hB3 y hy
    · rw [p1, d] at hy; cases hy
    · rw [hother k hk] at hy; exact e k hk y hy
  · have r1 := hRbA eA
    refine ⟨fun k hk => by rw [hother k hk]; exact r1.w k hk, fun k hk => ?_⟩
    by_cases hkL : k = L
    · rw [hkL, hLb]; exact r1.r L hL
    · by_cases hUk : U k = true
      · rw [(hnode k hk hkL hUk).2.1]; decide
      · rw [p3, if_neg (fun hh => hUk hh.2.2)]; exact r1.r k hk
/-- The greatest leads: all others follow it, or ask, or wait. -/
structure KK (n : Nat) (U : Nat → Bool) (m : Nat) (T0 : Int) (t : Tw) (cur : List Wd) : Prop where
  T : t.T = T0
  r : (t.b m).x.role = 4
  tm : (t.b m).x.term = T0
  l : (t.b m).left = 2
  k : ∀ k, k < n → U k = true → k ≠ m → (t.b k).x.lead = m ∧ (t.b k).x.term = T0 ∧ at_ (t.b k).xs m = 0 ∧ ((t.b k).x.role = 0 ∨ (((t.b k).x.role = 1 ∨ (t.b k).x.role = 2) ∧ (t.b k).x.ticks = 0))
  w : ∀ y, pend n U t cur y → y.k ≠ 3
theorem S2.kk (h : S2 n U m T0 t cur) : KK n U m T0 t cur := ⟨h.T, h.r, h.tm, h.l, fun k hk hU hkm => by obtain ⟨a, b, c, d⟩ := h.sd k hk hU hkm; exact ⟨b, c, d, .inl a⟩, h.w⟩
theorem KK.move (h : KK n U m T0 t []) : KK n U m T0 { t with l := [] } t.l := ⟨h.T, h.r, h.tm, h.l, h.k, fun y hy => h.w y (pend_move.1 hy)⟩
theorem KK.put (hm : Mx n U m) (hT : t.T ≤ 1000000) (h : G n U t (w :: cur)) (hi : KK n U m T0 t (w :: cur)) : KK n U m T0 (put1 n U t w) cur := by
  have hv := h.w w (pend_cons.2 (.inl rfl))
  have hw3 := hi.w w (pend_cons.2 (.inl rfl))
  rcases put_cases h with ⟨e, hno⟩ | ⟨k0, hk0, hU0, hw, e⟩ <;> rw [e]
  · exact ⟨hi.T, hi.r, hi.tm, hi.l, hi.k, fun y hy => hi.w y (pend_cons.2 (.inr hy))⟩
  obtain ⟨nw, hnw, -, hnew⟩ := (h.g k0 hk0).take_new (by omega) hk0 hv hw
  obtain ⟨q1, q2, q3, q4⟩ := quiet_word (h.g k0 hk0) hT hk0 hv hw hw3
  have hwp : ∀ y, pend n U (t.set k0 ((t.b k0).take w)) cur y → y.k ≠ 3 := fun y hy => by
    rcases (pend_set hk0 hU0 hnw).1 hy with hy | hy
    · exact hi.w y (pend_cons.2 (.inr hy))
    · exact new_quiet hnew y hy
  refine ⟨hi.T, ?_, ?_, ?_, fun k hk hU hkm => ?_, hwp⟩
  · by_cases ek : m = k0
    · subst ek; rw [Tw.set_same]; exact q1.2 hi.r
    · rw [Tw.set_ne _ _ ek]; exact hi.r
  · by_cases ek : m = k0
    · subst ek; rw [Tw.set_same, q2]; exact hi.tm
    · rw [Tw.set_ne _ _ ek]; exact hi.tm
  · by_cases ek : m = k0
    · subst ek; rw [Tw.set_same, q3]; exact hi.l
    · rw [Tw.set_ne _ _ ek]; exact hi.l
  · by_cases ek : k = k0
    · subst ek
      rw [Tw.set_same]
      obtain ⟨a, b, c, d⟩ := hi.k k hk hU hkm
      have := hm.le k hk hU
      have := hm.lt
      obtain ⟨f, hf, hfk, hUf, hh⟩ := (h.g k hk0).take_cases (by omega) hk0 hv hw
      rcases hh with ⟨hw', hlt, ⟨h0, e⟩ | ⟨h0, hl, e⟩ | ⟨h0, hl, e⟩⟩ | ⟨hw', hlt, ⟨h0, e⟩ | ⟨h0, e⟩⟩ | ⟨mm, hw', -⟩
      · rw [e]; exact ⟨a, b, heard_zero c, d⟩
      · rw [e]; exact ⟨a, b, heard_zero c, .inr ⟨.inl rfl, rfl⟩⟩
      · omega
      · rw [e]; exact ⟨a, b, heard_zero c, .inr ⟨.inr rfl, rfl⟩⟩
      · rw [e]; exact ⟨a, b, heard_zero c, d⟩
      · rw [hw'] at hw3; exact absurd rfl hw3
    · rw [Tw.set_ne _ _ ek]; exact hi.k k hk hU hkm
theorem KK.gat {k0 : Nat} (hk0 : k0 < n) (hU0 : U k0 = true) (hT : t.T ≤ 1000000) (h : G n U t cur) (hi : KK n U m T0 t cur) : KK n U m T0 (gat1 n t k0) cur := by
  have hno : (t.b k0).x.role ≠ 3 := by
    by_cases ek : k0 = m
    · subst ek; rw [hi.r]; decide
    · obtain ⟨-, -, -, d⟩ := hi.k k0 hk0 hU0 ek
      omega
  rcases gat_cases h hT hk0 with ⟨-, e⟩ | ⟨h3', -⟩ | ⟨h3', -⟩
  · have hs : (gat1 n t k0).b k0 = { (t.b k0) with x := { (t.b k0).x with ws := [] } } := by rw [e]; exact Tw.set_same _ _ _
    have hT1 : (gat1 n t k0).T = t.T := by rw [e]
    refine ⟨hT1.trans hi.T, ?_, ?_, ?_, fun k hk hU hkm => ?_, fun y hy => ?_⟩
    · by_cases ek : m = k0
      · rw [ek, hs, ← ek]; exact hi.r
      · rw [gat1_b (Ne.symm ek)]; exact hi.r
    · by_cases ek : m = k0
      · rw [ek, hs, ← ek]; exact hi.tm
      · rw [gat1_b (Ne.symm ek)]; exact hi.tm
    · by_cases ek : m = k0
      · rw [ek, hs, ← ek]; exact hi.l
      · rw [gat1_b (Ne.symm ek)]; exact hi.l
    · by_cases ek : k = k0
      · rw [ek, hs, ← ek]; exact hi.k k hk hU hkm
      · rw [gat1_b (Ne.symm ek)]; exact hi.k k hk hU hkm
    · rw [e] at hy
      rcases (pend_flush hk0 hU0 rfl).1 hy with hy | hy
      · exact hi.w y hy
      · cases hy
  · exact absurd h3' hno
  · exact absurd h3' hno
/-- The greatest asks, or will claim at once. -/
def Ph3 (T0 : Int) (s : PN) : Prop := s.x.term = T0 ∧ ((s.x.role = 1 ∧ s.x.ticks = 0) ∨ s.x.role = 3)
theorem ph_3 (n m : Nat) (T0 : Int) : Ph n m T0 (Ph3 T0) := by
  refine ⟨fun s ws xs h h0 h4 => h, fun s ws xs h h0 hl => ?_, fun s ws xs h h0 hl => ?_, fun s h h3 ht => ?_, fun s h => h⟩
  · exact ⟨h.1, .inl ⟨rfl, rfl⟩⟩
  · exact ⟨h.1, .inr rfl⟩
  · have := h.1; omega
/-- L leads, not the greatest: the greatest asks or leads; or it follows, and one that asks it is on its way; or all follow. -/
def KP (n : Nat) (U : Nat → Bool) (m L : Nat) (lm T0 : Int) (t : Tw) (cur : List Wd) : Prop :=
  Mo n U m (some L) 2 lm T0 false (Ph3 T0) t cur ∨
  (N3 n U m t cur ∧ Co n U m (some L) 2 T0 false t cur ∧ (t.b m).left = lm ∧ (t.b m).x.role = 0 ∧ (t.b m).x.term = T0 ∧ ((∃ f, pend n U t cur (elW f m)) ∨ (∀ k, k < n → U k = true → k ≠ L → Sd L T0 (t.b k))))
theorem KP.move {L : Nat} (hi : KP n U m L lm T0 t []) : KP n U m L lm T0 { t with l := [] } t.l :=
  hi.imp (fun h => h.move) (fun ⟨a, b, c, d, d', e⟩ => ⟨a, b.move, c, d, d', e.imp (fun ⟨f, h⟩ => ⟨f, pend_move.2 h⟩) id⟩)
theorem KP.put {L : Nat} (hm : Mx n U m) (hT : t.T ≤ 1000000) (h : G n U t (w :: cur)) (hi : KP n U m L lm T0 t (w :: cur)) : KP n U m L lm T0 (put1 n U t w) cur := by
  rcases hi with hi | ⟨h3, hc, hl, hr, htm, hcase⟩
  · exact .inl (hi.put (ph_3 n m T0) hm hT h)
  have hv := h.w w (pend_cons.2 (.inl rfl))
  have hw3 : w.k ≠ 3 := fun e => by have := (hc.w w (pend_cons.2 (.inl rfl)) e).1; cases this
  have h3' := h3.put hm hT h
  have hc' := hc.put hT h hw3 hm.lt
  have hLm := (hc.L L rfl).2.2.1
  rcases put_cases h with ⟨e, hno⟩ | ⟨k0, hk0, hU0, hw, e⟩ <;> rw [e] at h3' hc' ⊢
  · refine .inr ⟨h3', hc', hl, hr, htm, hcase.imp (fun ⟨f, hp⟩ => ?_) id⟩
    rcases pend_cons.1 hp with hp | hp
    · exact (hno m (by rw [← hp]; rfl) hm.lt hm.up).elim
    · exact ⟨f, hp⟩
  obtain ⟨nw, hnw, -, hnew⟩ := (h.g k0 hk0).take_new (by omega) hk0 hv hw
  obtain ⟨f, hf, hfk, hUf, hh⟩ := (h.g k0 hk0).take_cases (by omega) hk0 hv hw
  by_cases ek : k0 = m
  · subst ek
    rcases hh with ⟨hw', hlt, ⟨h0, e⟩ | ⟨h0, hl', e⟩ | ⟨h0, hl', e⟩⟩ | ⟨hw', hlt, -⟩ | ⟨mm, hw', -⟩
    · exact absurd hr h0
    · left
      refine ⟨h3', .inl ⟨hc', ?_⟩⟩
      rw [Tw.set_same, e]
      exact ⟨⟨htm, .inl ⟨rfl, rfl⟩⟩, hl⟩
    · left
      refine ⟨h3', .inl ⟨hc', ?_⟩⟩
      rw [Tw.set_same, e]
      exact ⟨⟨htm, .inr rfl⟩, hl⟩
    · exact (no_ans hm hUf hf hlt).elim
    · rw [hw'] at hw3; exact absurd rfl hw3
  · right
    have hmb : (t.set k0 ((t.b k0).take w)).b m = t.b m := Tw.set_ne _ _ (Ne.symm ek)
    refine ⟨h3', hc', by rw [hmb]; exact hl, by rw [hmb]; exact hr, by rw [hmb]; exact htm, ?_⟩
    rcases hcase with ⟨g, hp⟩ | hall
    · left
      rcases pend_cons.1 hp with hp | hp
      · rw [← hp] at hw
        simp only [elW] at hw
        omega
      · exact ⟨g, (pend_set hk0 hU0 hnw).2 (.inl hp)⟩
    · have hmle := hm.le k0 hk0 hU0
      by_cases ekL : k0 = L
      · right
        intro k hk hU hkL
        rw [Tw.set_ne _ _ (by omega)]
        exact hall k hk hU hkL
      · obtain ⟨s0, s1, s2, s3⟩ := hall k0 hk0 hU0 ekL
        rcases hh with ⟨hw', hlt, ⟨h0, e⟩ | ⟨h0, hl', e⟩ | ⟨h0, hl', e⟩⟩ | ⟨hw', hlt, ⟨h0, e⟩ | ⟨h0, e⟩⟩ | ⟨mm, hw', -⟩
        · exact absurd s0 h0
        · left
          refine ⟨k0, .inr (.inr ⟨k0, hk0, hU0, ?_⟩)⟩
          rw [Tw.set_same, e]
          exact List.mem_append_right _ (els_mem.2 ⟨m, by omega, hm.lt, rfl⟩)
        · have := hm.lt; omega
        · omega
        · right
          intro k hk hU hkL
          by_cases ekk : k = k0
          · subst ekk; rw [Tw.set_same, e]; exact ⟨s0, s1, s2, heard_zero s3⟩
          · rw [Tw.set_ne _ _ ekk]; exact hall k hk hU hkL
        · rw [hw'] at hw3; exact absurd rfl hw3
theorem KP.gat {L k0 : Nat} (hm : Mx n U m) (hk0 : k0 < n) (hU0 : U k0 = true) (hT : t.T ≤ 1000000) (h : G n U t cur) (hi : KP n U m L lm T0 t cur) : KP n U m L lm T0 (gat1 n t k0) cur := by
  rcases hi with hi | ⟨h3, hc, hl, hr, htm, hcase⟩
  · exact .inl (hi.gat (ph_3 n m T0) hm hk0 hU0 hT h)
  have hno : (t.b k0).x.role ≠ 3 := by
    by_cases ek : k0 = m
    · subst ek; rw [hr]; decide
    · exact h3 k0 hk0 hU0 ek
  obtain ⟨a, b, c⟩ := hc.gat hk0 hU0 hT h hno
  have key : ∀ k, ((gat1 n t k0).b k).x.role = (t.b k).x.role ∧ ((gat1 n t k0).b k).x.term = (t.b k).x.term ∧ ((gat1 n t k0).b k).left = (t.b k).left ∧ ((gat1 n t k0).b k).x.lead = (t.b k).x.lead ∧ ((gat1 n t k0).b k).xs = (t.b k).xs := by
    intro k
    by_cases ek : k = k0
    · subst ek; rw [b]; exact ⟨rfl, rfl, rfl, rfl, rfl⟩
    · rw [gat1_b (Ne.symm ek)]; exact ⟨rfl, rfl, rfl, rfl, rfl⟩
  refine .inr ⟨h3.gat hk0 hU0 hT h, a, by rw [(key m).2.2.1]; exact hl, by rw [(key m).1]; exact hr, by rw [(key m).2.1]; exact htm, hcase.imp (fun ⟨f, hp⟩ => ⟨f, (c _).2 hp⟩) (fun hall k hk hU hkL => ?_)⟩
  obtain ⟨s0, s1, s2, s3⟩ := hall k hk hU hkL
  obtain ⟨q0, q1, -, q2, q3⟩ := key k
  exact ⟨by rw [q0]; exact s0, by rw [q2]; exact s1, by rw [q1]; exact s2, by rw [q3]; exact s3⟩
end
end Go.Proofs.Ytccmnphjiebiaaa
