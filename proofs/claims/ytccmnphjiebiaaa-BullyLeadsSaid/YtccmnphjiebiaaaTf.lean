/- Somebody leads: behind thirty rounds one leads and all others that are up follow it. Plain law. Condition: a good town at rest, the greatest that is up is m. -/
import Derived.Test.YtccmnphjiebiaaaTs2
namespace Go.Proofs.Ytccmnphjiebiaaa
set_option linter.unusedVariables false
set_option linter.unusedSimpArgs false
theorem out_id {s : PN} (h : s.x.ws = []) : s.out = s := by
  obtain ⟨⟨a, b, c, d, e, f, g, ws⟩, xs, ev, li, le⟩ := s
  simp only at h
  subst h
  rfl
theorem set_id (t : Tw) (k : Nat) : t.set k (t.b k) = t := by
  obtain ⟨b, l, T⟩ := t
  unfold Tw.set
  congr 1
  funext j
  by_cases e : j = k
  · simp [e]
  · simp [e]
section
variable {n m L k : Nat} {U : Nat → Bool} {t : Tw} {T0 : Int}
theorem gat1_id (hw : (t.b k).x.ws = []) (h3 : (t.b k).x.role ≠ 3) (hl : t.l = []) : gat1 n t k = t := by
  unfold gat1
  rw [if_neg h3, out_id hw, set_id, hw, hl]
  obtain ⟨b, l, T⟩ := t
  simp only at hl
  subst hl
  rfl
theorem gathN_id (hb : Rb n t) (hl : t.l = []) : ∀ j, j ≤ n → gathN n U t j = t
  | 0, _ => rfl
  | j + 1, hj => by
    unfold gathN
    rw [gathN_id hb hl j (by omega), gat1_id (hb.w j (by omega)) (hb.r j (by omega)) hl]
    simp
theorem gath_id (hb : Rb n t) (hl : t.l = []) : gath n U t = t := gathN_id hb hl n (Nat.le_refl _)
theorem dlv_id (hl : t.l = []) : ∀ f, dlv n U f t = t
  | 0 => rfl
  | f + 1 => by unfold dlv; rw [if_pos hl]
theorem dlv_step (hb : Rb n t) (f : Nat) : dlv n U (f + 1) t = dlv n U f (dlv1 n U t) := by
  by_cases hl : t.l = []
  · have e : dlv1 n U t = t := by
      unfold dlv1
      rw [hl]
      have : ({ t with l := [] } : Tw) = t := by obtain ⟨b, l, T⟩ := t; simp only at hl; subst hl; rfl
      rw [this]
      exact gath_id hb hl
    rw [e, dlv_id hl, dlv_id hl]
  · conv => lhs; unfold dlv
    rw [if_neg hl]
def cT (T : Int) (s : PN) : Int := if s.x.term < T then 4 else 0
theorem cT_yes {T : Int} {s : PN} (h : s.x.term < T) : cT T s = 4 := if_pos h
theorem cT_no {T : Int} {s : PN} (h : ¬ s.x.term < T) : cT T s = 0 := if_neg h
theorem cT_cases (T : Int) (s : PN) : (s.x.term < T ∧ cT T s = 4) ∨ (¬ s.x.term < T ∧ cT T s = 0) := by
  by_cases h : s.x.term < T
  · exact .inl ⟨h, cT_yes h⟩
  · exact .inr ⟨h, cT_no h⟩
theorem mu0 {T : Int} {s : PN} (r : s.x.role = 0) : mu T s = cT T s + (3 + if aliveB s.xs 8 s.x.lead = true then 8 - at_ s.xs s.x.lead else 0) := by simp [mu, cT, r]
theorem mu1 {T : Int} {s : PN} (r : s.x.role = 1) : mu T s = cT T s + (2 - s.x.ticks) := by simp [mu, cT, r]
theorem mu2 {T : Int} {s : PN} (r : s.x.role = 2) : mu T s = cT T s + (7 - s.x.ticks) := by simp [mu, cT, r]
theorem mu4 {T : Int} {s : PN} (r : s.x.role = 4) : mu T s = cT T s + 20 := by simp [mu, cT, r]
theorem mu0_ge {T : Int} {s : PN} (r : s.x.role = 0) : cT T s + 3 ≤ mu T s := by
  rw [mu0 r]
  by_cases h : aliveB s.xs 8 s.x.lead = true
  · rw [if_pos h]; have := alive_lt h; omega
  · rw [if_neg h]; omega
theorem mu_pos {T : Int} {s : PN} (g : Gn n k T s) (h3 : s.x.role ≠ 3) : 1 ≤ mu T s := by
  rcases g.rr with r | r | r | r | r
  · have := mu0_ge (T := T) r; rcases cT_cases T s with ⟨-, h⟩ | ⟨-, h⟩ <;> omega
  · rw [mu1 r]; have := g.r1 r; rcases cT_cases T s with ⟨-, h⟩ | ⟨-, h⟩ <;> omega
  · rw [mu2 r]; have := (g.r2 r).2; rcases cT_cases T s with ⟨-, h⟩ | ⟨-, h⟩ <;> omega
  · exact absurd r h3
  · rw [mu4 r]; rcases cT_cases T s with ⟨-, h⟩ | ⟨-, h⟩ <;> omega
theorem mu_le {T : Int} {s : PN} (g : Gn n k T s) (h3 : s.x.role ≠ 3) : mu T s ≤ 24 := by
  have hx : 0 ≤ at_ s.xs s.x.lead := by
    unfold at_
    rw [List.getD_eq_getElem?_getD]
    cases e : s.xs[s.x.lead.toNat]? with
    | none => simp
    | some v => have := (g.xb.bd _ _ e).1; simpa using this
  rcases g.rr with r | r | r | r | r
  · rw [mu0 r]
    rcases cT_cases T s with ⟨-, h⟩ | ⟨-, h⟩ <;> split <;> omega
  · rw [mu1 r]; have := g.r1 r; rcases cT_cases T s with ⟨-, h⟩ | ⟨-, h⟩ <;> omega
  · rw [mu2 r]; have := (g.r2 r).1; rcases cT_cases T s with ⟨-, h⟩ | ⟨-, h⟩ <;> omega
  · exact absurd r h3
  · rw [mu4 r]; rcases cT_cases T s with ⟨-, h⟩ | ⟨-, h⟩ <;> omega
/-- A tick brings the greatest nearer to its claim. -/
theorem mu_start {T : Int} {s : PN} (g : Gn n k T s) (hk : k < n) (hT : T ≤ 1000000) (h0 : 0 ≤ T) (h3 : s.x.role ≠ 3) (hw : s.x.ws = []) (h4 : ¬ (s.x.role = 4 ∧ s.x.term = T)) :
    PhM T (mu T s - 1) ((s.over T).tick n) ∧ (mu T s ≤ 1 → ((s.over T).tick n).x.role = 3 ∧ ((s.over T).tick n).x.term = T) := by
  have ht1 := g.t1
  obtain ⟨-, -, ⟨r, ht, h, e⟩ | ⟨r, ht, h, e⟩ | ⟨l, hl, ⟨r, h, e⟩ | ⟨hl1, hr, e⟩ | ⟨hl1, hr, e⟩ | ⟨hl1, r, h, e⟩ | ⟨hl1, r, h, e⟩ | ⟨r, h, e⟩ | ⟨r, h, e⟩ | ⟨r, h, e⟩⟩⟩ := ot_cases g hk hT h0 h3 hw
  · exact absurd ⟨r, ht⟩ h4
  · exact absurd ⟨r, ht⟩ h4
  · -- follows one that is alive
    have ha : aliveB (tickL k 8 s.xs) 8 s.x.lead = true := by unfold PN.alive at h; rw [g.self, g.lm] at h; exact h
    have hin : inR s.x.lead n = true := by
      unfold aliveB at ha
      rw [tickL_len, g.xl] at ha
      simp only [Bool.and_eq_true] at ha
      exact ha.1
    have hlk := g.nl (by omega)
    have hat := at_tick g.xb g.xl hlk hin
    have hlt := alive_lt ha
    have hat2 : at_ (tickL k 8 s.xs) s.x.lead = at_ s.xs s.x.lead + 1 := by rw [hat] at hlt ⊢; split at hlt <;> first | omega | (rw [if_neg (by assumption)])
    have ha0 : aliveB s.xs 8 s.x.lead = true := by
      unfold aliveB
      rw [g.xl, hin]
      simp; omega
    have hmu := mu0 (T := T) r
    rw [if_pos ha0] at hmu
    have hc := cT_cases T s
    rw [e]
    refine ⟨⟨fun hr => by simp only at hr; omega, fun _ _ => ?_⟩, fun hm => by omega⟩
    rw [mu0 (by exact r)]
    simp only [ha, if_true, hat2]
    have ec : cT T { s with x := { s.x with ticks := s.x.ticks + 1 }, xs := tickL k 8 s.xs, left := l } = cT T s := rfl
    rw [ec]
    omega
  · have hm3 : cT T s + 3 ≤ mu T s := by
      rcases hr with ⟨r, h⟩ | ⟨r, h⟩
      · exact mu0_ge r
      · rw [mu2 r]; omega
    have hc := cT_cases T s
    rw [e]
    refine ⟨⟨fun hr => by simp at hr, fun _ _ => ?_⟩, fun hm => by omega⟩
    rw [mu1 rfl]
    have ec : cT T { s with x := { s.x with role := 1, ticks := 0, ws := els n k }, xs := tickL k 8 s.xs, left := l } = cT T s := rfl
    rw [ec]
    show cT T s + (2 - 0) ≤ _
    omega
  · have hm3 : cT T s + 3 ≤ mu T s := by
      rcases hr with ⟨r, h⟩ | ⟨r, h⟩
      · exact mu0_ge r
      · rw [mu2 r]; omega
    have hc := cT_cases T s
    rw [e]
    refine ⟨⟨fun _ ht => ?_, fun hr => by simp at hr⟩, fun hm => by omega⟩
    simp only at ht
    omega
  · have hm4 := mu4 (T := T) r
    have hc := cT_cases T s
    rw [e]
    refine ⟨⟨fun hr => by simp at hr, fun _ _ => ?_⟩, fun hm => by omega⟩
    rw [mu1 rfl, cT_no (by simp)]
    show (0 : Int) + (2 - 0) ≤ _
    omega
  · have hm4 := mu4 (T := T) r
    have hc := cT_cases T s
    rw [e]
    exact ⟨⟨fun _ ht => by simp at ht, fun hr => by simp at hr⟩, fun hm => by omega⟩
  · have hm1 := mu1 (T := T) r
    have hc := cT_cases T s
    rw [e]
    refine ⟨⟨fun _ ht => ?_, fun hr => by simp at hr⟩, fun hm => ⟨rfl, ?_⟩⟩
    · simp only at ht; omega
    · show s.x.term = T; omega
  · have hm1 := mu1 (T := T) r
    have hc := cT_cases T s
    rw [e]
    refine ⟨⟨fun hr => by simp only at hr; omega, fun _ _ => ?_⟩, fun hm => by omega⟩
    rw [mu1 (by exact r)]
    have ec : cT T { s with x := { s.x with ticks := 1 }, xs := tickL k 8 s.xs, left := l } = cT T s := rfl
    rw [ec]
    show cT T s + (2 - 1) ≤ _
    omega
  · have hm1 := mu2 (T := T) r
    have hc := cT_cases T s
    rw [e]
    refine ⟨⟨fun hr => by simp only at hr; omega, fun _ _ => ?_⟩, fun hm => by omega⟩
    rw [mu2 (by exact r)]
    have ec : cT T { s with x := { s.x with ticks := s.x.ticks + 1 }, xs := tickL k 8 s.xs, left := l } = cT T s := rfl
    rw [ec]
    show cT T s + (7 - (s.x.ticks + 1)) ≤ _
    omega
/-- k leads with the log's term. -/
def LA (t : Tw) (k : Nat) : Prop := (t.b k).x.role = 4 ∧ (t.b k).x.term = t.T
theorem Co.start (hm : Mx n U m) (h : G n U t []) (r : Rs n t) (hT : t.T ≤ 1000000) {Lo : Option Nat} {ll : Int} {be : Bool}
    (hLo : ∀ k, k < n → U k = true → k ≠ m → (LA t k ↔ Lo = some k)) (hL : ∀ L, Lo = some L → L < n ∧ U L = true ∧ L ≠ m ∧ (((t.b L).left = 1 ∧ ll = 2 ∧ be = true) ∨ ((t.b L).left = 2 ∧ ll = 1))) (h4 : ¬ LA t m) :
    Co n U m Lo ll t.T be (tickU n U t) [] := by
  have h0 := h.T0
  refine ⟨rfl, fun k hk hU hkm => ?_, fun L hl => ?_, fun y hy h3 => ?_, fun hr => ?_⟩
  · rw [← hLo k hk hU hkm, tickU_b hk hU]
    constructor
    · intro hr
      obtain ⟨a, b, -⟩ := ot_role4 (h.g k hk) hk hT h0 (r.r k hk) (r.w k hk) hr
      exact ⟨a, b⟩
    · rintro ⟨a, b⟩
      obtain ⟨-, -, ⟨_, ht, h, e⟩ | ⟨_, ht, h, e⟩ | ⟨l, hl, ⟨r, h, e⟩ | ⟨hl1, hr, e⟩ | ⟨hl1, hr, e⟩ | ⟨hl1, r, h, e⟩ | ⟨hl1, r, h, e⟩ | ⟨r, h, e⟩ | ⟨r, h, e⟩ | ⟨r, h, e⟩⟩⟩ := ot_cases (h.g k hk) hk hT h0 (r.r k hk) (r.w k hk) <;> first | (rw [e]; exact a) | (exfalso; omega)
  · obtain ⟨a, b, c, d⟩ := hL L hl
    refine ⟨a, b, c, ?_⟩
    obtain ⟨p, q⟩ := (hLo L a b c).2 hl
    rw [tickU_b a b]
    obtain ⟨-, -, ⟨_, ht, hh, e⟩ | ⟨_, ht, hh, e⟩ | ⟨l, hl, ⟨r, hh, e⟩ | ⟨hl1, hr, e⟩ | ⟨hl1, hr, e⟩ | ⟨hl1, r, hh, e⟩ | ⟨hl1, r, hh, e⟩ | ⟨r, hh, e⟩ | ⟨r, hh, e⟩ | ⟨r, hh, e⟩⟩⟩ := ot_cases (h.g L a) a hT h0 (r.r L a) (r.w L a)
    · rw [e]; exact ⟨q, by show (2 : Int) = ll; omega⟩
    · rw [e]; exact ⟨q, by show (1 : Int) = ll; omega⟩
    all_goals (exfalso; omega)
  · rcases hy with hy | hy | ⟨k, hk, hU, hy⟩
    · cases hy
    · rw [show (tickU n U t).l = [] from r.l] at hy; cases hy
    · rw [tickU_b hk hU] at hy
      rcases ot_ws (h.g k hk) hk hT h0 (r.r k hk) (r.w k hk) y hy with ⟨a, b, c, j, h1, h2, rfl⟩ | ⟨j, h1, h2, rfl⟩
      · have hkm : k ≠ m := fun e => h4 (e ▸ ⟨a, b⟩)
        have hs := (hLo k hk hU hkm).1 ⟨a, b⟩
        obtain ⟨-, -, -, d⟩ := hL k hs
        refine ⟨?_, k, hs, rfl, rfl⟩
        rcases d with d | d
        · exact d.2.2
        · omega
      · cases h3
  · rw [tickU_b hm.lt hm.up] at hr
    obtain ⟨a, b, -⟩ := ot_role4 (h.g m hm.lt) hm.lt hT h0 (r.r m hm.lt) (r.w m hm.lt) hr
    exact h4 ⟨a, b⟩
theorem Mo.start (hm : Mx n U m) (h : G n U t []) (r : Rs n t) (hT : t.T ≤ 1000000) (hf : Fresh n U m t) {Lo : Option Nat} {ll : Int} {be : Bool}
    (hLo : ∀ k, k < n → U k = true → k ≠ m → (LA t k ↔ Lo = some k)) (hL : ∀ L, Lo = some L → L < n ∧ U L = true ∧ L ≠ m ∧ (((t.b L).left = 1 ∧ ll = 2 ∧ be = true) ∨ ((t.b L).left = 2 ∧ ll = 1))) (h4 : ¬ LA t m) :
    Mo n U m Lo ll ((tickU n U t).b m).left t.T be (PhM t.T (mu t.T (t.b m) - 1)) (tickU n U t) [] ∧ (mu t.T (t.b m) ≤ 1 → Mo n U m Lo ll ((tickU n U t).b m).left t.T be (fun s => s.x.role = 3 ∧ s.x.term = t.T) (tickU n U t) []) := by
  have hc := Co.start hm h r hT hLo hL h4
  have h3 := N3.start hm h r hT hf
  obtain ⟨a, b⟩ := mu_start (h.g m hm.lt) hm.lt hT h.T0 (r.r m hm.lt) (r.w m hm.lt) h4
  rw [← tickU_b hm.lt hm.up] at a b
  exact ⟨⟨h3, .inl ⟨hc, a, rfl⟩⟩, fun hmu => ⟨h3, .inl ⟨hc, b hmu, rfl⟩⟩⟩
/-- What a round leaves, but for who leads. -/
theorem round_all (hm : Mx n U m) (h : G n U t []) (r : Rs n t) (hn : n ≤ 5) (hT : t.T ≤ 900000) :
    G n U (gath n U (tickU n U t)) [] ∧ Rb n (gath n U (tickU n U t)) ∧ (gath n U (tickU n U t)).T ≤ t.T + 5 := by
  have h1 := h.tickU r (by omega)
  have hT1 : (tickU n U t).T = t.T := rfl
  obtain ⟨a, -, b, c⟩ := gath_ind (Inv := fun _ _ => True) (fun _ _ _ _ _ _ _ => trivial) h1 trivial (by rw [hT1]; omega)
  exact ⟨a, gath_rb h1 (by rw [hT1]; omega) (fun k hk hU => by rw [tickU_not hU]; exact ⟨r.w k hk, r.r k hk⟩), by omega⟩
/-- Nobody leads, or one that has no word to say in this round. -/
theorem round_mo (hm : Mx n U m) (h : G n U t []) (r : Rs n t) (hn : n ≤ 5) (hT : t.T ≤ 900000) (hf : Fresh n U m t) {Lo : Option Nat}
    (hLo : ∀ k, k < n → U k = true → k ≠ m → (LA t k ↔ Lo = some k)) (hL : ∀ L, Lo = some L → L < n ∧ U L = true ∧ L ≠ m ∧ (t.b L).left = 2) (h4 : ¬ LA t m) :
    LA (round n U t) m ∨ ((∀ k, k < n → U k = true → k ≠ m → (LA (round n U t) k ↔ Lo = some k)) ∧ (∀ L, Lo = some L → ((round n U t).b L).left = 1) ∧ ¬ LA (round n U t) m ∧ mu (round n U t).T ((round n U t).b m) ≤ mu t.T (t.b m) - 1) := by
  obtain ⟨g1, b1, T1⟩ := round_all hm h r hn hT
  obtain ⟨-, rr, -⟩ := round_base h r hn hT
  have hT1 : (tickU n U t).T = t.T := rfl
  have hs := (Mo.start hm h r (by omega) hf (be := false) (ll := 1) hLo (fun L e => by obtain ⟨a, b, c, d⟩ := hL L e; exact ⟨a, b, c, .inr ⟨d, rfl⟩⟩) h4).1
  have h2 := hs.gath (ph_mu n m t.T _) hm (h.tickU r (by omega)) (by rw [hT1]; omega)
  have h3 := h2.dlv (ph_mu n m t.T _) hm 20 g1 (by omega)
  obtain ⟨-, ⟨hc, hφ, -⟩ | hp⟩ := h3
  · right
    have hcT := hc.T
    refine ⟨fun k hk hU hkm => ?_, fun L e => (hc.L L e).2.2.2.2, fun hh => hc.m4 hh.1, ?_⟩
    · constructor
      · exact fun hh => (hc.r k hk hU hkm).1 hh.1
      · intro e
        exact ⟨(hc.r k hk hU hkm).2 e, (hc.L k e).2.2.2.1.trans hcT.symm⟩
    · have : (round n U t).T = t.T := hcT
      rw [this]
      exact hφ.2 (rr.r m hm.lt) hc.m4
  · exact .inl ⟨hp.r, hp.T⟩
theorem PL.gathN3 {lm : Int} (h : G n U t []) (h3 : N3 n U m t []) (hi : PL n U m lm t []) (hT : t.T + n ≤ 1000000) : N3 n U m (gath n U t) [] ∧ PL n U m lm (gath n U t) [] :=
  (gath_ind (Inv := fun t cur => N3 n U m t cur ∧ PL n U m lm t cur) (fun t k hk hU hT h hi => ⟨hi.1.gat hk hU hT h, hi.2.gat hk hU hT h hi.1⟩) h ⟨h3, hi⟩ hT).2.1
theorem PL.dlvN3 {lm : Int} (hm : Mx n U m) (f : Nat) (h : G n U t []) (h3 : N3 n U m t []) (hi : PL n U m lm t []) (hT : t.T + f * n ≤ 1000000) : PL n U m lm (dlv n U f t) [] :=
  (dlv_ind (Inv := fun t cur => N3 n U m t cur ∧ PL n U m lm t cur) (fun t w cur hT h hi => ⟨hi.1.put hm hT h, hi.2.put hT h hm.lt⟩) (fun t k hk hU hT h hi => ⟨hi.1.gat hk hU hT h, hi.2.gat hk hU hT h hi.1⟩) (fun t hi => ⟨hi.1, hi.2.move⟩) f t hT h ⟨h3, hi⟩).2.1.2
/-- The greatest leads, and has no word to say in this round. -/
theorem round_pl (hm : Mx n U m) (h : G n U t []) (r : Rs n t) (hn : n ≤ 5) (hT : t.T ≤ 900000) (hf : Fresh n U m t) (hl : LA t m) (hl2 : (t.b m).left = 2) : LA (round n U t) m ∧ ((round n U t).b m).left = 1 := by
  obtain ⟨g1, b1, T1⟩ := round_all hm h r hn hT
  have hT1 : (tickU n U t).T = t.T := rfl
  have h0 := h.T0
  have h3 := N3.start hm h r (by omega) hf
  obtain ⟨hr, htm⟩ := hl
  have hb : (tickU n U t).b m = { t.b m with x := { (t.b m).x with ticks := (t.b m).x.ticks + 1 }, xs := tickL m 8 (t.b m).xs, left := 1 } := by
    rw [tickU_b hm.lt hm.up]
    obtain ⟨-, -, ⟨_, ht, hh, e⟩ | ⟨_, ht, hh, e⟩ | ⟨l, hl, ⟨r, hh, e⟩ | ⟨hl1, hr, e⟩ | ⟨hl1, hr, e⟩ | ⟨hl1, r, hh, e⟩ | ⟨hl1, r, hh, e⟩ | ⟨r, hh, e⟩ | ⟨r, hh, e⟩ | ⟨r, hh, e⟩⟩⟩ := ot_cases (h.g m hm.lt) hm.lt (by omega) h0 (r.r m hm.lt) (r.w m hm.lt)
    · omega
    · exact e
    all_goals (exfalso; omega)
  have hp : PL n U m 1 (tickU n U t) [] := by
    refine ⟨by rw [hb]; exact hr, by rw [hb]; exact htm, by rw [hb], fun y hy h3 _ => ?_⟩
    exfalso
    rcases hy with hy | hy | ⟨k, hk, hU, hy⟩
    · cases hy
    · rw [show (tickU n U t).l = [] from r.l] at hy; cases hy
    · rw [tickU_b hk hU] at hy
      rcases ot_ws (h.g k hk) hk (by omega) h0 (r.r k hk) (r.w k hk) y hy with ⟨a, b, c, j, h1, h2, rfl⟩ | ⟨j, h1, h2, rfl⟩
      · have := h.u k m hk hm.lt a hr (by rw [b, htm])
        subst this
        omega
      · cases h3
  obtain ⟨q1, q2⟩ := hp.gathN3 (h.tickU r (by omega)) h3 (by rw [hT1]; omega)
  have q3 := q2.dlvN3 hm 20 g1 q1 (by omega)
  exact ⟨⟨q3.r, q3.T⟩, q3.l⟩
/-- L leads; all others that are up follow it, or wait. -/
structure Qz (n : Nat) (U : Nat → Bool) (L : Nat) (t : Tw) : Prop where
  lt : L < n
  up : U L = true
  la : LA t L
  k : ∀ k, k < n → U k = true → k ≠ L → (t.b k).x.lead = L ∧ (t.b k).x.term = t.T ∧ ((t.b k).x.role = 0 ∨ ((t.b k).x.role = 2 ∧ (t.b k).x.ticks + (t.b L).left ≤ 3)) ∧ at_ (t.b k).xs L + (t.b L).left ≤ 7
def Q0 (n : Nat) (U : Nat → Bool) (L : Nat) (t : Tw) : Prop := Qz n U L t ∧ ∀ k, k < n → U k = true → k ≠ L → (t.b k).x.role = 0
/-- The greatest leads, and says so. -/
theorem round_kk (hm : Mx n U m) (h : G n U t []) (r : Rs n t) (hn : n ≤ 5) (hT : t.T ≤ 900000) (hf : Fresh n U m t) (hl : LA t m) (hl2 : (t.b m).left = 1) : Qz n U m (round n U t) := by
  obtain ⟨g1, b1, T1⟩ := round_all hm h r hn hT
  have hT1 : (tickU n U t).T = t.T := rfl
  have h0 := h.T0
  have hfr := round_fresh hm h r hn hT hf
  obtain ⟨-, rr, -⟩ := round_base h r hn hT
  have h3 := N3.start hm h r (by omega) hf
  have ht1 := h.tickU r (by omega)
  obtain ⟨hr, htm⟩ := hl
  have hb : (tickU n U t).b m = { t.b m with x := { (t.b m).x with ticks := (t.b m).x.ticks + 1, ws := leads m t.T n }, xs := tickL m 8 (t.b m).xs, left := 2 } := by
    rw [tickU_b hm.lt hm.up]
    obtain ⟨-, -, ⟨_, ht, hh, e⟩ | ⟨_, ht, hh, e⟩ | ⟨l, hl, ⟨r, hh, e⟩ | ⟨hl1, hr, e⟩ | ⟨hl1, hr, e⟩ | ⟨hl1, r, hh, e⟩ | ⟨hl1, r, hh, e⟩ | ⟨r, hh, e⟩ | ⟨r, hh, e⟩ | ⟨r, hh, e⟩⟩⟩ := ot_cases (h.g m hm.lt) hm.lt (by omega) h0 (r.r m hm.lt) (r.w m hm.lt)
    · exact e
    · omega
    all_goals (exfalso; omega)
  have hw : ∀ y, pend n U (tickU n U t) [] y → y.k = 3 → y.f = m ∧ y.t ≠ m := fun y hy h3 => by
    rcases hy with hy | hy | ⟨k, hk, hU, hy⟩
    · cases hy
    · rw [show (tickU n U t).l = [] from r.l] at hy; cases hy
    · rw [tickU_b hk hU] at hy
      rcases ot_ws (h.g k hk) hk (by omega) h0 (r.r k hk) (r.w k hk) y hy with ⟨a, b, c, j, h1, h2, rfl⟩ | ⟨j, h1, h2, rfl⟩
      · have := h.u k m hk hm.lt a hr (by rw [b, htm])
        subst this
        exact ⟨rfl, by show (j : Int) ≠ k; omega⟩
      · cases h3
  obtain ⟨-, ⟨i1, i2, i3, i4⟩, -⟩ := gath_ind (U := U) (Inv := fun s cur => N3 n U m s cur ∧ PL n U m 2 s cur ∧ s.T = t.T ∧ ∀ y, pend n U s cur y → y.k = 3 → y.f = m) (fun s k hk hU hT h ⟨a, b, c, d⟩ => by
    have hno : (s.b k).x.role ≠ 3 := by
      by_cases ek : k = m
      · subst ek; rw [b.r]; decide
      · exact a k hk hU ek
    refine ⟨a.gat hk hU hT h, b.gat hk hU hT h a, ?_, fun y hy => ?_⟩
    · rcases gat_cases h hT hk with ⟨-, e⟩ | ⟨h3', -⟩ | ⟨h3', -⟩
      · rw [e]; exact c
      · exact absurd h3' hno
      · exact absurd h3' hno
    · rcases gat_cases h hT hk with ⟨-, e⟩ | ⟨h3', -⟩ | ⟨h3', -⟩
      · rw [e] at hy
        rcases (pend_flush hk hU rfl).1 hy with hy | hy
        · exact d y hy
        · cases hy
      · exact absurd h3' hno
      · exact absurd h3' hno) ht1 ⟨h3, ⟨by rw [hb]; exact hr, by rw [hb]; exact htm, by rw [hb], fun y hy h3 ht => absurd ht (hw y hy h3).2⟩, rfl, fun y hy h3 => (hw y hy h3).1⟩ (by rw [hT1]; omega)
  obtain ⟨A, B, hAB, hne⟩ := gath_split ht1 (by rw [hT1]; omega) r.l hm.lt hm.up (by rw [hb]; show (t.b m).x.role ≠ 3; omega)
  rw [hb] at hAB
  obtain ⟨t2, p1, p2, -, p4, -⟩ := s_point (T0 := t.T) g1 b1 i3 (by omega) hm.lt hm.up i2.r (i2.T.trans i3) i2.l hAB hne (fun y hy => i4 y (.inr (.inl hy)))
  have hkk := p2.kk
  obtain ⟨q1, q2, q3⟩ := puts_ind (Inv := KK n U m t.T) (fun t w cur hT h hi => hi.put hm hT h) B t2 (by rw [p2.T]; omega) p1 hkk
  obtain ⟨e1, e2, e3, e4⟩ := gath_ind (Inv := KK n U m t.T) (fun t k hk hU hT h hi => hi.gat hk hU hT h) q1 q2 (by rw [q2.T]; omega)
  obtain ⟨-, f2, -⟩ := dlv_ind (Inv := KK n U m t.T) (fun t w cur hT h hi => hi.put hm hT h) (fun t k hk hU hT h hi => hi.gat hk hU hT h) (fun t hi => hi.move) 19 (gath n U (puts n U t2 B)) (by rw [e2.T]; omega) e1 e2
  have hround : round n U t = dlv n U 19 (gath n U (puts n U t2 B)) := by
    unfold round
    rw [dlv_step b1]
    unfold dlv1
    rw [p4]
  rw [← hround] at f2
  refine ⟨hm.lt, hm.up, ⟨f2.r, f2.tm.trans f2.T.symm⟩, fun k hk hU hkm => ?_⟩
  obtain ⟨a, b, c, d⟩ := f2.k k hk hU hkm
  have hk1 := hfr k hk hU hkm
  have hll := f2.l
  refine ⟨a, b.trans f2.T.symm, ?_, by omega⟩
  rcases d with d | ⟨d | d, d2⟩
  · exact .inl d
  · exact absurd d hk1
  · exact .inr ⟨d, by omega⟩
/-- L leads, not the greatest, and says so. -/
theorem round_kp (hm : Mx n U m) (h : G n U t []) (r : Rs n t) (hn : n ≤ 5) (hT : t.T ≤ 900000) (hf : Fresh n U m t) (hLn : L < n) (hLU : U L = true) (hLm : L ≠ m) (hl : LA t L) (hl1 : (t.b L).left = 1) :
    LA (round n U t) m ∨ (1 < mu t.T (t.b m) ∧ (Q0 n U L (round n U t) ∨ ((∀ k, k < n → U k = true → k ≠ m → (LA (round n U t) k ↔ k = L)) ∧ ((round n U t).b L).left = 2 ∧ ¬ LA (round n U t) m ∧ mu (round n U t).T ((round n U t).b m) ≤ 2))) := by
  obtain ⟨g1, b1, T1⟩ := round_all hm h r hn hT
  obtain ⟨-, rr, -⟩ := round_base h r hn hT
  have hT1 : (tickU n U t).T = t.T := rfl
  have h0 := h.T0
  have ht1 := h.tickU r (by omega)
  have hLo : ∀ k, k < n → U k = true → k ≠ m → (LA t k ↔ some L = some k) := fun k hk hU hkm => by
    constructor
    · intro hh
      have := h.u L k hLn hk hl.1 hh.1 (by rw [hl.2, hh.2])
      rw [this]
    · intro e
      injection e with e
      rw [← e]; exact hl
  have h4 : ¬ LA t m := fun hh => hLm (h.u L m hLn hm.lt hl.1 hh.1 (by rw [hl.2, hh.2]))
  obtain ⟨hs, hsc⟩ := Mo.start hm h r (by omega) hf (be := true) (ll := 2) (Lo := some L) hLo (fun L' e => by injection e with e; subst e; exact ⟨hLn, hLU, hLm, .inl ⟨hl1, rfl, rfl⟩⟩) h4
  have hbL : (tickU n U t).b L = { t.b L with x := { (t.b L).x with ticks := (t.b L).x.ticks + 1, ws := leads L t.T n }, xs := tickL L 8 (t.b L).xs, left := 2 } := by
    have hr := hl.1
    have htm := hl.2
    rw [tickU_b hLn hLU]
    obtain ⟨-, -, ⟨_, ht, hh, e⟩ | ⟨_, ht, hh, e⟩ | ⟨l, hl, ⟨r, hh, e⟩ | ⟨hl1, hr, e⟩ | ⟨hl1, hr, e⟩ | ⟨hl1, r, hh, e⟩ | ⟨hl1, r, hh, e⟩ | ⟨r, hh, e⟩ | ⟨r, hh, e⟩ | ⟨r, hh, e⟩⟩⟩ := ot_cases (h.g L hLn) hLn (by omega) h0 (r.r L hLn) (r.w L hLn)
    · exact e
    · omega
    all_goals (exfalso; omega)
  by_cases hmu : mu t.T (t.b m) ≤ 1
  · left
    have h2 := (hsc hmu).gath (ph_claim n m t.T) hm ht1 (by rw [hT1]; omega)
    obtain ⟨h3, ⟨-, ⟨hr3, -⟩, -⟩ | hp⟩ := h2
    · exact absurd hr3 (b1.r m hm.lt)
    · have q := hp.dlvN3 hm 20 g1 h3 (by omega)
      exact ⟨q.r, q.T⟩
  have h2 := hs.gath (ph_mu n m t.T _) hm ht1 (by rw [hT1]; omega)
  obtain ⟨h3, ⟨hc, -, -⟩ | hp⟩ := h2
  · obtain ⟨c1, c2, c3, c4, c5⟩ := hc.L L rfl
    obtain ⟨A, B, hAB, hne⟩ := gath_split ht1 (by rw [hT1]; omega) r.l hLn hLU (by rw [hbL]; show (t.b L).x.role ≠ 3; rw [hl.1]; decide)
    rw [hbL] at hAB
    obtain ⟨t2, p1, p2, -, p4, -⟩ := s_point (T0 := t.T) g1 b1 hc.T (by omega) hLn hLU ((hc.r L hLn hLU hLm).2 rfl) c4 c5 hAB hne (fun y hy h3 => by
      obtain ⟨-, L', e, q, -⟩ := hc.w y (.inr (.inl hy)) h3
      injection e with e
      rw [e]; exact q)
    have hsm := p2.sd m hm.lt hm.up (Ne.symm hLm)
    have hkp : KP n U m L (t2.b m).left t.T t2 B := by
      right
      refine ⟨fun k hk hU hkm => ?_, ⟨p2.T, fun k hk hU hkm => ?_, fun L' e => ?_, fun y hy h3 => absurd h3 (p2.w y hy), by rw [hsm.1]; decide⟩, rfl, hsm.1, hsm.2.2.1, .inr p2.sd⟩
      · by_cases ek : k = L
        · rw [ek, p2.r]; decide
        · rw [(p2.sd k hk hU ek).1]; decide
      · by_cases ek : k = L
        · rw [ek]; exact ⟨fun _ => rfl, fun _ => p2.r⟩
        · rw [(p2.sd k hk hU ek).1]
          exact ⟨fun e => by omega, fun e => by injection e with e; exact absurd e.symm ek⟩
      · injection e with e
        subst e
        exact ⟨hLn, hLU, hLm, p2.tm, p2.l⟩
    obtain ⟨q1, q2, q3⟩ := puts_ind (Inv := KP n U m L (t2.b m).left t.T) (fun t w cur hT h hi => hi.put hm hT h) B t2 (by rw [p2.T]; omega) p1 hkp
    obtain ⟨e1, e2, e3, e4⟩ := gath_ind (Inv := KP n U m L (t2.b m).left t.T) (fun t k hk hU hT h hi => hi.gat hm hk hU hT h) q1 q2 (by rw [q3, p2.T]; omega)
    have p2T := p2.T
    obtain ⟨-, f2, -⟩ := dlv_ind (Inv := KP n U m L (t2.b m).left t.T) (fun t w cur hT h hi => hi.put hm hT h) (fun t k hk hU hT h hi => hi.gat hm hk hU hT h) (fun t hi => hi.move) 19 (gath n U (puts n U t2 B)) (by rw [q3, p2T] at e4; omega) e1 e2
    have hround : round n U t = dlv n U 19 (gath n U (puts n U t2 B)) := by
      unfold round
      rw [dlv_step b1]
      unfold dlv1
      rw [p4]
    rw [← hround] at f2
    rcases f2 with ⟨-, ⟨hc, hφ, -⟩ | hp⟩ | ⟨-, hc, -, hr, htm, hcase⟩
    · right
      refine ⟨by omega, .inr ?_⟩
      obtain ⟨d1, d2, d3, d4, d5⟩ := hc.L L rfl
      refine ⟨fun k hk hU hkm => ?_, d5, fun hh => hc.m4 hh.1, ?_⟩
      · constructor
        · intro hh; have := (hc.r k hk hU hkm).1 hh.1; injection this with this; exact this.symm
        · intro e; subst e; exact ⟨(hc.r k hk hU hkm).2 rfl, d4.trans hc.T.symm⟩
      · obtain ⟨v1, v2 | v2⟩ := hφ
        · rw [hc.T]
          rw [mu1 v2.1, v2.2, cT_no (by omega)]
          decide
        · exact absurd v2 (rr.r m hm.lt)
    · exact .inl ⟨hp.r, hp.T⟩
    · right
      refine ⟨by omega, .inl ?_⟩
      obtain ⟨d1, d2, d3, d4, d5⟩ := hc.L L rfl
      rcases hcase with ⟨f, hp⟩ | hall
      · exact absurd hp (pend_rest ⟨rr.w, rr.r⟩ rr.l)
      · refine ⟨⟨hLn, hLU, ⟨(hc.r L hLn hLU hLm).2 rfl, d4.trans hc.T.symm⟩, fun k hk hU hkL => ?_⟩, fun k hk hU hkL => (hall k hk hU hkL).1⟩
        obtain ⟨s0, s1, s2, s3⟩ := hall k hk hU hkL
        exact ⟨s1, s2.trans hc.T.symm, .inl s0, by omega⟩
  · left
    have q := hp.dlvN3 hm 20 g1 h3 (by omega)
    exact ⟨q.r, q.T⟩
end
end Go.Proofs.Ytccmnphjiebiaaa
