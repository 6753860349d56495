/- All say what they have to say, and claim what they want: gather. Conditions: the town lies whole in memory; the bounds of PI. -/
import Derived.Test.YtccmnphjiebiaaaMem2
namespace Go.Proofs.Ytccmnphjiebiaaa
open Go.RowKit G
set_option linter.unusedVariables false
set_option linter.unusedSimpArgs false
attribute [local go_sem] upon_value upon_skip upon_enter runAt_run
/-- The block of the nodes' pointers. -/
structure Pb (w : World) (Bb n : Nat) (Pf : Nat → Nat) : Prop where
  lt : Bb < w.heap.size
  c : ∀ k, k < n → w.cell? ⟨Bb, k, none⟩ = some (ptr (Pf k))
theorem Pb.kept {w w' : World} {Bb n : Nat} {Pf : Nat → Nat} {F : List Nat} (h : Pb w Bb n Pf) (hk : Kept F w w') (hF : Bb ∉ F) : Pb w' Bb n Pf :=
  ⟨Nat.lt_of_lt_of_le h.lt hk.size, fun k hk' => by rw [World.cell?_of_block (a := ⟨Bb, k, none⟩) (hk.block Bb h.lt hF)]; exact h.c k hk'⟩
/-- The block of who is up. -/
structure Bs (w : World) (Ub n : Nat) (U : Nat → Bool) : Prop where
  lt : Ub < w.heap.size
  c : ∀ k, k < n → w.cell? ⟨Ub, k, none⟩ = some (.bool (U k))
theorem Bs.kept {w w' : World} {Bb n : Nat} {Pf : Nat → Bool} {F : List Nat} (h : Bs w Bb n Pf) (hk : Kept F w w') (hF : Bb ∉ F) : Bs w' Bb n Pf :=
  ⟨Nat.lt_of_lt_of_le h.lt hk.size, fun k hk' => by rw [World.cell?_of_block (a := ⟨Bb, k, none⟩) (hk.block Bb h.lt hF)]; exact h.c k hk'⟩
/-- A statement that appends a node's words to those on their way, in whatever order. -/
structure GA (w0 : World) (n Pt Bb : Nat) (bv lv : Value) (N : Nat → NL) (t : Tw) (k : Nat) (σ : St) (w : World) : Prop where
  x4 : σ 4 = none → σ 13 = none
  x12 : σ 12 = none → σ 13 = none
  x13 : σ 13 = none → σ 16 = none
  kp : Kept (ft n Pt lv N) w0 w
  a : σ 12 = none → TQ w n Pt bv lv lv N t ∧ Stp (ft n Pt lv N) (ft n Pt lv N) w0 w
  b : ∀ z, σ 12 = some z → σ 13 = none → z = (N k).v ∧ TQ w n Pt bv lv lv (nset N k (.slice none 0 0)) (t.set k (t.b k).out) ∧ Stp (ft n Pt lv N) (ft n Pt lv (nset N k (.slice none 0 0))) w0 w ∧ WIn w (N k).v (t.b k).x.ws
  c : ∀ z, σ 13 = some z → σ 16 = none → TQ w n Pt bv lv z (nset N k (.slice none 0 0)) { t.set k (t.b k).out with l := t.l ++ (t.b k).x.ws } ∧ Stp (ft n Pt lv N) (ft n Pt z (nset N k (.slice none 0 0))) w0 w
  d : ∀ z, σ 16 = some z → ∃ lv', TQ w n Pt bv lv' lv' (nset N k (.slice none 0 0)) { t.set k (t.b k).out with l := t.l ++ (t.b k).x.ws } ∧ Stp (ft n Pt lv N) (ft n Pt lv' (nset N k (.slice none 0 0))) w0 w
section
variable {w0 w w' : World} {n Pt Bb k i : Nat} {bv lv z u : Value} {N : Nat → NL} {t : Tw} {σ : St}
theorem GA.start (h : TQ w0 n Pt bv lv lv N t) : GA w0 n Pt Bb bv lv N t k (fun _ => none) w0.drew :=
  ⟨fun _ => rfl, fun _ => rfl, fun _ => rfl, (Kept.refl _ _).drew, fun _ => ⟨h.drewN 1, (Stp.refl _ _).drew⟩, fun _ h => (by cases h), fun _ h => (by cases h), fun _ h => (by cases h)⟩
theorem GA.pure (h : GA w0 n Pt Bb bv lv N t k σ w) (h1 : 4 ≠ i) (h2 : 12 ≠ i) (h3 : 13 ≠ i) (h4 : 16 ≠ i) : GA w0 n Pt Bb bv lv N t k (σ.upd i z) w :=
  ⟨by rw [upd_ne h1, upd_ne h3]; exact h.x4, by rw [upd_ne h2, upd_ne h3]; exact h.x12, by rw [upd_ne h3, upd_ne h4]; exact h.x13, h.kp, by rw [upd_ne h2]; exact h.a, by rw [upd_ne h2, upd_ne h3]; exact h.b, by rw [upd_ne h3, upd_ne h4]; exact h.c, by rw [upd_ne h4]; exact h.d⟩
theorem GA.load (h : GA w0 n Pt Bb bv lv N t k σ w) : GA w0 n Pt Bb bv lv N t k (σ.upd 4 z) w :=
  ⟨by rw [upd_eq]; exact (fun h => by cases h), by rw [upd_ne (by omega), upd_ne (by omega)]; exact h.x12, by rw [upd_ne (by omega), upd_ne (by omega)]; exact h.x13, h.kp, by rw [upd_ne (by omega)]; exact h.a, by rw [upd_ne (by omega), upd_ne (by omega)]; exact h.b, by rw [upd_ne (by omega), upd_ne (by omega)]; exact h.c, by rw [upd_ne (by omega)]; exact h.d⟩
/-- The town's own cells. -/
theorem GA.row (h : GA w0 n Pt Bb bv lv N t k σ w) : w.cell? ⟨Pt, 0, none⟩ = some bv ∧ (σ 16 = none → w.cell? ⟨Pt, 1, none⟩ = some lv) ∧ ∀ i, w.frozen? ⟨Pt, i, none⟩ = false := by
  cases e16 : σ 16 with
  | some y =>
    obtain ⟨lv', a, -⟩ := h.d y e16
    exact ⟨a.r.cell 0 _ rfl, (fun e => by cases e), a.r.free⟩
  | none =>
    cases e13 : σ 13 with
    | some y =>
      obtain ⟨a, -⟩ := h.c y e13 e16
      exact ⟨a.r.cell 0 _ rfl, fun _ => a.r.cell 1 _ rfl, a.r.free⟩
    | none =>
      cases e12 : σ 12 with
      | some y =>
        obtain ⟨-, a, -⟩ := h.b y e12 e13
        exact ⟨a.r.cell 0 _ rfl, fun _ => a.r.cell 1 _ rfl, a.r.free⟩
      | none =>
        obtain ⟨a, -⟩ := h.a e12
        exact ⟨a.r.cell 0 _ rfl, fun _ => a.r.cell 1 _ rfl, a.r.free⟩
theorem GA.cell1 (h : GA w0 n Pt Bb bv lv N t k σ w) (h4 : σ 4 = none) : w.cell? ⟨Pt, 1, none⟩ = some lv := h.row.2.1 (h.x13 (h.x4 h4))
theorem GA.call (h : GA w0 n Pt Bb bv lv N t k σ w) (hk : k < n) (h12 : σ 12 = none) : Calls Try.prog 15 #[ptr (N k).P] w fun e w' => e = .returned (N k).v ∧ GA w0 n Pt Bb bv lv N t k (σ.upd 12 (N k).v) w' := by
  obtain ⟨a, st⟩ := h.a h12
  have h13 := h.x12 h12
  have h16 := h.x13 h13
  refine (a.out hk).mono fun e w' ⟨he, q1, q2, q3⟩ => ⟨he, ?_, ?_, ?_, h.kp.trans q2.keep, ?_, ?_, ?_, ?_⟩
  · rw [upd_ne (by omega), upd_ne (by omega)]; exact h.x4
  · rw [upd_eq]; exact (fun h => by cases h)
  · rw [upd_ne (by omega), upd_ne (by omega)]; exact h.x13
  · rw [upd_eq]; exact (fun h => by cases h)
  · intro z hz _
    rw [upd_eq] at hz
    cases hz
    exact ⟨rfl, q1, st.trans q2, q3⟩
  · rw [upd_ne (by omega), h13]; exact (fun _ h => by cases h)
  · rw [upd_ne (by omega), h16]; exact (fun _ h => by cases h)
theorem GA.app (h : GA w0 n Pt Bb bv lv N t k σ w) (hl : t.l.length + (t.b k).x.ws.length ≤ 100000000) (h4 : σ 4 = some lv) (h12 : σ 12 = some (N k).v) (h13 : σ 13 = none) :
    ∃ z w', (Builtin.append_ #[41, 41] 41 #[lv, (N k).v]).run Try.prog w = .ok z w' ∧ IsSlice z ∧ GA w0 n Pt Bb bv lv N t k (σ.upd 13 z) w' := by
  obtain ⟨-, a, st, hw⟩ := h.b _ h12 h13
  have h16 := h.x13 h13
  obtain ⟨z, w', hr, q1, q2, q3⟩ := run_app a.l hw hl
  obtain ⟨p1, p2⟩ := a.words q2 q1 q3
  have hs : IsSlice z := by obtain ⟨p, c, rfl⟩ := q1.len; exact .mk _ _ _
  refine ⟨z, w', hr, hs, ?_, ?_, ?_, (st.trans p2).keep, ?_, ?_, ?_, ?_⟩
  · rw [upd_ne (by omega), upd_eq, h4]; exact (fun h => by cases h)
  · rw [upd_ne (by omega), upd_eq, h12]; exact (fun h => by cases h)
  · rw [upd_eq]; exact (fun h => by cases h)
  · rw [upd_ne (by omega), h12]; exact (fun h => by cases h)
  · rw [upd_eq]; exact (fun _ _ h => by cases h)
  · intro y hy _
    rw [upd_eq] at hy
    cases hy
    exact ⟨p1, st.trans p2⟩
  · rw [upd_ne (by omega), h16]; exact (fun _ h => by cases h)
theorem GA.store (h : GA w0 n Pt Bb bv lv N t k σ w) {v : Value} (h13 : σ 13 = some z) (h16 : σ 16 = none) : GA w0 n Pt Bb bv lv N t k (σ.upd 16 v) (w.setCell ⟨Pt, 1, none⟩ z) := by
  obtain ⟨a, st⟩ := h.c z h13 h16
  obtain ⟨p1, p2⟩ := a.setL z
  have h12 : ∃ y, σ 12 = some y := by
    cases e : σ 12 with
    | none => have := h.x12 e; rw [h13] at this; cases this
    | some y => exact ⟨y, rfl⟩
  obtain ⟨y, h12⟩ := h12
  refine ⟨?_, ?_, ?_, (st.trans p2).keep, ?_, ?_, ?_, fun _ _ => ⟨z, p1, st.trans p2⟩⟩
  · rw [upd_ne (by omega), upd_ne (by omega)]; exact h.x4
  · rw [upd_ne (by omega), upd_ne (by omega)]; exact h.x12
  · rw [upd_ne (by omega), h13]; exact (fun h => by cases h)
  · rw [upd_ne (by omega), h12]; exact (fun h => by cases h)
  · rw [upd_ne (show 13 ≠ 16 by omega), h13]; exact (fun _ _ h => by cases h)
  · rw [upd_eq]; exact (fun _ _ h => by cases h)
end
theorem gat1_3 {n k : Nat} {t : Tw} {s : PN} {T' : Int} (h3 : (t.b k).x.role = 3) (hT : claimT t.T (t.b k) = T') (hs : (t.b k).claims n t.T = s) : gat1 n t k = { (t.set k s).set k s.out with l := t.l ++ s.x.ws, T := T' } := by
  unfold gat1
  rw [if_pos h3, hT, hs]
  simp only [Tw.set]
  congr 1
  funext j
  by_cases e : j = k <;> simp [e]
theorem gat1_n3 {n k : Nat} {t : Tw} (h3 : (t.b k).x.role ≠ 3) : gat1 n t k = { t.set k (t.b k).out with l := t.l ++ (t.b k).x.ws } := by
  unfold gat1
  rw [if_neg h3]
set_option maxHeartbeats 8000000 in
set_option maxRecDepth 100000 in
theorem gather_any {w : World} {n Pt Bb cb Ub cu i m : Nat} {lv : Value} {N : Nat → NL} {t : Tw} {U : Nat → Bool} (h : TQ w n Pt (.slice (some ⟨Bb, 0, none⟩) n cb) lv lv N t)
    (hpb : Pb w Bb n fun k => (N k).P) (hbf : Bb ∉ ft n Pt lv N) (hub : Bs w Ub n U) (huf : Ub ∉ ft n Pt lv N) (hg : G n U t []) (hT : t.T + n ≤ 1000000) (hpa : PA i m n t) (hm : m ≤ 900000) (hl : t.l.length + wsum t n ≤ 90000000) (hn : n ≤ 5) :
    Calls Try.prog 25 #[ptr Pt, .slice (some ⟨Ub, 0, none⟩) n cu] w fun e w' => e = .returned (.tuple #[]) ∧ ∃ lv' N', TQ w' n Pt (.slice (some ⟨Bb, 0, none⟩) n cb) lv' lv' N' (gath n U t) ∧ Stp (ft n Pt lv N) (ft n Pt lv' N') w w' ∧ ∀ k, (N' k).P = (N k).P := by
  have HPB := Lib.hid hpb
  have HUB := Lib.hid hub
  have HF := Lib.hid (And.intro hbf huf)
  have HG := Lib.hid (And.intro hg (And.intro hT (And.intro hpa (And.intro hm (And.intro hl hn)))))
  have HH := Lib.hid h
  clear h hpb hub hbf huf hg hT hpa hm hl hn
  go_enter Try.func25, Try.ntmps25
  go_wp2
  go_loopw [4] (fun vi wr => ∃ j : Nat, j ≤ n ∧ vi = .int .i64 j ∧ ∃ lv' N', TQ wr n Pt (.slice (some ⟨Bb, 0, none⟩) n cb) lv' lv' N' (gathN n U t j) ∧ Stp (ft n Pt lv N) (ft n Pt lv' N') w wr ∧ ∀ k, (N' k).P = (N k).P) (fun vi _ => n - (intOf vi).toNat)
  case atStart => exact ⟨0, Nat.zero_le _, rfl, lv, N, HH.out, Stp.refl _ _, fun _ => rfl⟩
  case round =>
    obtain ⟨j, hj, rfl, lv1, N1, hq, hst, hP⟩ := hrel
    have x0 := hq.r.cell 0 _ rfl
    by_cases hjn : j < n
    · have hjl : (j : Int) < (n : Int) := by omega
      have hup := (HUB.out.kept hst.keep HF.out.2).c j hjn
      have hpt := (HPB.out.kept hst.keep HF.out.1).c j hjn
      rw [← hP j] at hpt
      obtain ⟨hg0, hT0, hpa0, hm0, hl0, hn0⟩ := HG.out
      obtain ⟨hg1, -, hT1, hT2⟩ := gathN_ind (Inv := fun _ _ => True) (fun _ _ _ _ _ _ _ => trivial) hg0 trivial j hj (by omega)
      have hpa1 := hpa0.gathN (U := U) j hj
      have hlen := len_gathN (U := U) hpa0 j hj
      have hws : wsum t (j + 1) ≤ wsum t n := by
        have : ∀ d, wsum t (j + 1) ≤ wsum t (j + 1 + d) := by
          intro d
          induction d with
          | zero => exact Nat.le_refl _
          | succ d ih => show _ ≤ wsum t (j + 1 + d) + _; omega
        have := this (n - (j + 1))
        rwa [show j + 1 + (n - (j + 1)) = n by omega] at this
      have hlj : (gathN n U t j).l.length + ((gathN n U t j).b j).x.ws.length ≤ 90000100 := by
        rw [gathN_hi j j (Nat.le_refl _)]
        have e : wsum t (j + 1) = wsum t j + (t.b j).x.ws.length := rfl
        omega
      have hPT := hpa1 j hjn
      have hGn := hg1.g j hjn
      have HPB1 := Lib.hid (HPB.out.kept hst.keep HF.out.1)
      have HBF1 := Lib.hid (show Bb ∉ ft n Pt lv1 N1 from fun hm => (hst.new _ hm).elim HF.out.1 (fun hh => by have := HPB.out.lt; omega))
      have hjT : (gathN n U t j).T ≤ 1000000 := by omega
      have hj0 : 0 ≤ (gathN n U t j).T := hg1.T0
      have HP1 := Lib.hid hP
      cases hU : U j
      · rw [hU] at hup
        go_wp2
        go_roundw
        case rel => exact ⟨j + 1, by omega, by go_num, lv1, N1, by show TQ _ n Pt _ lv1 lv1 N1 (if U j = true then gat1 n (gathN n U t j) j else gathN n U t j); rw [if_neg (by rw [hU]; simp)]; exact hq, hst, hP⟩
        case measure => simp [intOf]; omega
      · rw [hU] at hup
        have HT1 := Lib.hid (Eq.refl (gathN n U t j))
        obtain ⟨t1, ht1⟩ : ∃ t1, gathN n U t j = t1 := ⟨_, rfl⟩
        rw [ht1] at hq hg1 hlj hPT hGn hjT hj0
        have HQ1 := Lib.hid hq
        have HT := Lib.hid ht1
        have HST1 := Lib.hid hst
        have x2 := hq.r.cell 2 _ rfl
        have xf := hq.r.free
        have HLJ := Lib.hid hlj
        have HPT := Lib.hid hPT
        have HGN := Lib.hid (And.intro hGn (And.intro hjT (And.intro hj0 HG.out.2.2.2.1)))
        clear hq hst hP hg0 hT0 hpa0 hm0 hl0 hn0 hg1 hT1 hT2 hpa1 hlen hws hlj hPT hGn hjT hj0 ht1 HT1
        by_cases h3 : (t1.b j).x.role = 3
        · as_aux_lemma =>
          obtain ⟨ts, hts⟩ : ∃ z, (t1.b j).x.term = z := ⟨_, rfl⟩
          obtain ⟨tT, htT⟩ : ∃ z, t1.T = z := ⟨_, rfl⟩
          have hwn : (t1.b j).x.wants = (ts + 1, true) := by unfold Nd.wants; rw [if_pos h3, hts]
          have HWN := Lib.hid hwn
          obtain ⟨ow, how⟩ : ∃ z, decide (tT < ts + 1) = z := ⟨_, rfl⟩
          obtain ⟨tC, htC⟩ : ∃ z, (if tT < ts + 1 then ts + 1 else tT) = z := ⟨_, rfl⟩
          rw [htT] at x2
          have hC : claimT t1.T (t1.b j) = tC := by unfold claimT; rw [htT, hts]; exact htC
          obtain ⟨s1, hs1⟩ : ∃ z, (t1.b j).claims n t1.T = z := ⟨_, rfl⟩
          have hclaim : (t1.b j).claim tC ow n = s1 := by rw [← hs1]; unfold PN.claims; rw [hC, htT, hts, how]
          have HG1 := Lib.hid (gat1_3 h3 hC hs1)
          have HCL := Lib.hid hclaim
          have HPS := Lib.hid (show PI i (m + 8) n s1 by rw [← hs1]; exact HPT.out.claims t1.T)
          have HSL := Lib.hid (show s1.x.ws.length ≤ (t1.b j).x.ws.length + 8 by rw [← hs1]; exact (HPT.out.tight (m' := (t1.b j).x.ws.length) (Nat.le_refl _)).claims t1.T |>.bd.wl)
          clear hwn h3 hC hs1 hclaim htT hts
          go_upto_region 7 with (go_at_call 21; (with_reducible refine (HQ1.out.wants hjn HPT.out _ _ HWN.out).mono ?_); rintro e' w1 ⟨rfl, hw1⟩; obtain rfl := hw1.symm)
          go_upto_region 8 with (fail)
          obtain ⟨q2, st2⟩ := HQ1.out.setT tC
          have HPB2 := Lib.hid (HPB1.out.kept st2.keep HBF1.out)
          have HST2a := Lib.hid (HST1.out.trans st2)
          have HQ2a := Lib.hid q2
          generalize wr.setCell ⟨Pt, 2, none⟩ (.int .i64 tC) = w1 at HPB2 HST2a HQ2a ⊢
          have hb1 : ({ t1 with T := tC } : Tw).b j = t1.b j := rfl
          obtain ⟨cE, hcE⟩ : ∃ z, (t1.b j).x.claimE tC = z := ⟨_, rfl⟩
          have HCE := Lib.hid hcE
          clear hcE q2 st2 x0 x2 xf hup hpt how
          have ya0 := HQ2a.out.r.cell 0 _ rfl
          have ya2 := HQ2a.out.r.cell 2 _ rfl
          have yap : w1.cell? ⟨Bb, j, none⟩ = some (ptr (N1 j).P) := by rw [HP1.out j]; exact HPB2.out.c j hjn
          refine region_gen (Cl 12 w1 (fun wv => wv.cell? ⟨Pt, 0, none⟩ = some (.slice (some ⟨Bb, 0, none⟩) n cb) ∧ wv.cell? ⟨Pt, 2, none⟩ = some (.int .i64 tC) ∧ wv.cell? ⟨Bb, j, none⟩ = some (ptr (N1 j).P)) (fun _ wv => ∃ u, TQ wv n Pt (.slice (some ⟨Bb, 0, none⟩) n cb) lv1 lv1 (nset N1 j u) (({ t1 with T := tC } : Tw).set j s1) ∧ Stp (ft n Pt lv1 N1) (ft n Pt lv1 (nset N1 j u)) w1 wv)) (by kernel_rfl) (by kernel_rfl) (Cl.start ⟨ya0, ya2, yap⟩) ?_
          refine step_gen (by decide) (by rfl) (fun K_ hK => ?_)
          go_simp
          with_reducible apply H1.one
          · intro σ wv hk_ hd hv
            obtain ⟨y0, y2, yp⟩ := hv.i
            have Hv := Lib.hid hv
            clear hv
            go_simp
            (with_reducible refine ⟨rfl, ?_⟩; exact Cl.pure Hv.out (by decide))
          refine hK _ _ _ ?_
          clear hK K_
          refine step_gen (by decide) (by rfl) (fun K_ hK => ?_)
          go_simp
          with_reducible apply H1.one
          · intro σ wv hk_ hd hv
            obtain ⟨y0, y2, yp⟩ := hv.i
            have Hv := Lib.hid hv
            clear hv
            go_simp
            (with_reducible refine ⟨rfl, ?_⟩; exact Cl.pure Hv.out (by decide))
          refine hK _ _ _ ?_
          clear hK K_
          refine step_gen (by decide) (by rfl) (fun K_ hK => ?_)
          go_simp
          with_reducible apply H1.one
          · intro σ wv hk_ hd hv
            obtain ⟨y0, y2, yp⟩ := hv.i
            have Hv := Lib.hid hv
            clear hv
            go_simp
            (with_reducible refine ⟨rfl, ?_⟩; exact Cl.pure Hv.out (by decide))
          refine hK _ _ _ ?_
          clear hK K_
          refine step_gen (by decide) (by rfl) (fun K_ hK => ?_)
          go_simp
          with_reducible apply H1.one
          · intro σ wv hk_ hd hv
            obtain ⟨y0, y2, yp⟩ := hv.i
            have Hv := Lib.hid hv
            clear hv
            go_simp
            (with_reducible refine ⟨rfl, ?_⟩; exact Cl.pure Hv.out (by decide))
          refine hK _ _ _ ?_
          clear hK K_
          refine step_gen (by decide) (by rfl) (fun K_ hK => ?_)
          go_simp
          with_reducible apply H1.one
          · intro σ wv hk_ hd hv
            obtain ⟨y0, y2, yp⟩ := hv.i
            have Hv := Lib.hid hv
            clear hv
            go_simp
            (with_reducible refine ⟨rfl, ?_⟩; exact Cl.pure Hv.out (by decide))
          refine hK _ _ _ ?_
          clear hK K_
          refine step_gen (by decide) (by rfl) (fun K_ hK => ?_)
          go_simp
          with_reducible apply H1.one
          · intro σ wv hk_ hd hv
            obtain ⟨y0, y2, yp⟩ := hv.i
            have Hv := Lib.hid hv
            clear hv
            go_simp
            (with_reducible refine ⟨rfl, ?_⟩; exact Cl.pure Hv.out (by decide))
          refine hK _ _ _ ?_
          clear hK K_
          refine step_gen (by decide) (by rfl) (fun K_ hK => ?_)
          go_simp
          with_reducible apply H1.one
          · intro σ wv hk_ hd hv
            obtain ⟨y0, y2, yp⟩ := hv.i
            have Hv := Lib.hid hv
            clear hv
            go_simp
            (with_reducible refine ⟨rfl, ?_⟩; exact Cl.pure Hv.out (by decide))
          refine hK _ _ _ ?_
          clear hK K_
          refine step_gen (by decide) (by rfl) (fun K_ hK => ?_)
          go_simp
          with_reducible apply H1.one
          · intro σ wv hk_ hd hv
            obtain ⟨y0, y2, yp⟩ := hv.i
            have Hv := Lib.hid hv
            clear hv
            go_simp
            (with_reducible refine ⟨rfl, ?_⟩; exact Cl.pure Hv.out (by decide))
          refine hK _ _ _ ?_
          clear hK K_
          refine step_gen (by decide) (by rfl) (fun K_ hK => ?_)
          go_simp
          with_reducible apply H1.one
          · intro σ wv hk_ hd hv
            obtain ⟨y0, y2, yp⟩ := hv.i
            have Hv := Lib.hid hv
            clear hv
            go_simp
            (with_reducible refine ⟨rfl, ?_⟩; exact Cl.pure Hv.out (by decide))
          refine hK _ _ _ ?_
          clear hK K_
          refine step_gen (by decide) (by rfl) (fun K_ hK => ?_)
          go_simp
          with_reducible apply H1.one
          · intro σ wv hk_ hd hv
            obtain ⟨y0, y2, yp⟩ := hv.i
            have Hv := Lib.hid hv
            clear hv
            go_simp
            (with_reducible refine ⟨rfl, ?_⟩; exact Cl.pure Hv.out (by decide))
          refine hK _ _ _ ?_
          clear hK K_
          refine step_gen (by decide) (by rfl) (fun K_ hK => ?_)
          go_simp
          with_reducible apply H1.one
          · intro σ wv hk_ hd hv
            obtain ⟨y0, y2, yp⟩ := hv.i
            have Hv := Lib.hid hv
            clear hv
            go_simp
            (with_reducible refine ⟨rfl, ?_⟩; exact Cl.pure Hv.out (by decide))
          refine hK _ _ _ ?_
          clear hK K_
          refine step_gen (by decide) (by rfl) (fun K_ hK => ?_)
          go_simp
          with_reducible apply H1.one
          · intro σ wv hk_ hd hv
            obtain ⟨y0, y2, yp⟩ := hv.i
            have Hv := Lib.hid hv
            clear hv
            go_simp
            (with_reducible refine ⟨rfl, ?_⟩; exact Cl.pure Hv.out (by decide))
          refine hK _ _ _ ?_
          clear hK K_
          refine step_gen (by decide) (by rfl) (fun K_ hK => ?_)
          go_simp
          with_reducible apply H1.one
          · intro σ wv hk_ hd hv
            have Hv := Lib.hid hv
            clear hv
            go_simp
            (obtain ⟨m_, rfl⟩ := Hv.out.a hk_
             refine ((HQ2a.out.drewN m_).claim hjn (i := i) (m := m) HPT.out (by have := HGN.out.2.2.2; omega) tC ow cE HCE.out).mono ?_
             rintro e2 w3_ ⟨rfl, u3_, q3_, st3_⟩
             have hpb3 := (HPB2.out.kept ((Kept.refl [] w1).drewN m_) (fun hm => by cases hm)).kept st3_.keep HBF1.out
             exact ⟨_, rfl, rfl, Cl.call ⟨q3_.r.cell 0 _ rfl, q3_.r.cell 2 _ rfl, by rw [HP1.out j]; exact hpb3.c j hjn⟩ ⟨u3_, by rw [← HCL.out]; exact q3_, ⟨⟨st3_.keep.os, st3_.keep.tape, st3_.keep.output, st3_.keep.size, st3_.keep.block⟩, st3_.new⟩⟩⟩)
          refine hK _ _ _ ?_
          clear hK K_
          refine nil_gen ?_
          intro σ w2 hall ht hv
          obtain ⟨zz, hzz⟩ := Option.isSome_iff_exists.1 (hall 12 (by decide))
          obtain ⟨u2, q2, st2⟩ := hv.b zz hzz
          obtain ⟨N2, hN2⟩ : ∃ z, nset N1 j u2 = z := ⟨_, rfl⟩
          obtain ⟨t2, ht2⟩ : ∃ z, ({ t1 with T := tC } : Tw).set j s1 = z := ⟨_, rfl⟩
          have HPB3 := Lib.hid (HPB2.out.kept st2.keep HBF1.out)
          have HE2 := Lib.hid (show gat1 n (gathN n U t j) j = { t2.set j (t2.b j).out with l := t2.l ++ (t2.b j).x.ws } by
            rw [HT.out, HG1.out, ← ht2, Tw.set_same]
            rfl)
          have HLN2 := Lib.hid (show t2.l.length + (t2.b j).x.ws.length ≤ 100000000 by
            rw [← ht2, Tw.set_same]
            show t1.l.length + s1.x.ws.length ≤ _
            have := HSL.out
            have := HLJ.out
            omega)
          have HP2 := Lib.hid (show ∀ k, (N2 k).P = (N k).P from fun k => by rw [← hN2, nset_P]; exact HP1.out k)
          rw [hN2, ht2] at q2
          rw [hN2] at st2
          have HQ2 := Lib.hid q2
          have HST2 := Lib.hid (HST2a.out.trans st2)
          have HBF2 := Lib.hid (show Bb ∉ ft n Pt lv1 N2 from fun hm => (st2.new _ hm).elim HBF1.out (fun hh => by have := HPB2.out.lt; omega))
          clear hv hall ht hzz zz σ q2 st2 hN2 ht2 ya0 ya2 yap HG1 HCL HQ2a HST2a HSL HCE
          go_upto_region 9 with (fail)
          refine region_gen (GA w2 n Pt Bb (.slice (some ⟨Bb, 0, none⟩) n cb) lv1 N2 t2 j) (by kernel_rfl) (by kernel_rfl) (GA.start HQ2.out) ?_
          refine step_gen2 (by decide) (by rfl) (fun K_ hK => ?_)
          go_simp
          with_reducible apply H2.one
          · intro σ wv hk_ hd hv
            obtain ⟨y0, y1, yf⟩ := hv.row
            have yp : wv.cell? ⟨Bb, j, none⟩ = some (ptr (N2 j).P) := by rw [HP2.out j]; exact (HPB3.out.kept hv.kp HBF2.out).c j hjn
            have Hv := Lib.hid hv
            clear hv
            go_simp
            (with_reducible refine ⟨rfl, ?_⟩; exact GA.pure Hv.out (by decide) (by decide) (by decide) (by decide))
          refine hK _ _ _ ?_
          clear hK K_
          refine step_gen2 (by decide) (by rfl) (fun K_ hK => ?_)
          go_simp
          with_reducible apply H2.one
          · intro σ wv hk_ hd hv
            obtain ⟨y0, y1, yf⟩ := hv.row
            have yp : wv.cell? ⟨Bb, j, none⟩ = some (ptr (N2 j).P) := by rw [HP2.out j]; exact (HPB3.out.kept hv.kp HBF2.out).c j hjn
            have Hv := Lib.hid hv
            clear hv
            go_simp
            (with_reducible refine ⟨rfl, ?_⟩; exact GA.pure Hv.out (by decide) (by decide) (by decide) (by decide))
          refine hK _ _ _ ?_
          clear hK K_
          refine step_gen2 (by decide) (by rfl) (fun K_ hK => ?_)
          go_simp
          with_reducible apply H2.one
          · intro σ wv hk_ hd hv
            obtain ⟨y0, y1, yf⟩ := hv.row
            have yp : wv.cell? ⟨Bb, j, none⟩ = some (ptr (N2 j).P) := by rw [HP2.out j]; exact (HPB3.out.kept hv.kp HBF2.out).c j hjn
            have Hv := Lib.hid hv
            clear hv
            go_simp
            (with_reducible refine ⟨rfl, ?_⟩; exact GA.pure Hv.out (by decide) (by decide) (by decide) (by decide))
          refine hK _ _ _ ?_
          clear hK K_
          refine step_gen2 (by decide) (by rfl) (fun K_ hK => ?_)
          go_simp
          with_reducible apply H2.one
          · intro σ wv hk_ hd hv
            obtain ⟨y0, y1, yf⟩ := hv.row
            have yp : wv.cell? ⟨Bb, j, none⟩ = some (ptr (N2 j).P) := by rw [HP2.out j]; exact (HPB3.out.kept hv.kp HBF2.out).c j hjn
            have Hv := Lib.hid hv
            clear hv
            go_simp
            (with_reducible refine ⟨rfl, ?_⟩; exact GA.pure Hv.out (by decide) (by decide) (by decide) (by decide))
          refine hK _ _ _ ?_
          clear hK K_
          refine step_gen2 (by decide) (by rfl) (fun K_ hK => ?_)
          go_simp
          with_reducible apply H2.tr
          · intro σ wv hk_ hd hv
            have y1 := hv.cell1 hk_
            have Hv := Lib.hid hv
            clear hv
            go_simp
            (with_reducible refine ⟨rfl, ?_⟩; exact GA.load Hv.out)
          refine hK _ _ _ ?_
          clear hK K_
          refine step_gen2 (by decide) (by rfl) (fun K_ hK => ?_)
          go_simp
          with_reducible apply H2.one
          · intro σ wv hk_ hd hv
            obtain ⟨y0, y1, yf⟩ := hv.row
            have yp : wv.cell? ⟨Bb, j, none⟩ = some (ptr (N2 j).P) := by rw [HP2.out j]; exact (HPB3.out.kept hv.kp HBF2.out).c j hjn
            have Hv := Lib.hid hv
            clear hv
            go_simp
            (with_reducible refine ⟨rfl, ?_⟩; exact GA.pure Hv.out (by decide) (by decide) (by decide) (by decide))
          refine hK _ _ _ ?_
          clear hK K_
          refine step_gen2 (by decide) (by rfl) (fun K_ hK => ?_)
          go_simp
          with_reducible apply H2.one
          · intro σ wv hk_ hd hv
            obtain ⟨y0, y1, yf⟩ := hv.row
            have yp : wv.cell? ⟨Bb, j, none⟩ = some (ptr (N2 j).P) := by rw [HP2.out j]; exact (HPB3.out.kept hv.kp HBF2.out).c j hjn
            have Hv := Lib.hid hv
            clear hv
            go_simp
            (with_reducible refine ⟨rfl, ?_⟩; exact GA.pure Hv.out (by decide) (by decide) (by decide) (by decide))
          refine hK _ _ _ ?_
          clear hK K_
          refine step_gen2 (by decide) (by rfl) (fun K_ hK => ?_)
          go_simp
          with_reducible apply H2.one
          · intro σ wv hk_ hd hv
            obtain ⟨y0, y1, yf⟩ := hv.row
            have yp : wv.cell? ⟨Bb, j, none⟩ = some (ptr (N2 j).P) := by rw [HP2.out j]; exact (HPB3.out.kept hv.kp HBF2.out).c j hjn
            have Hv := Lib.hid hv
            clear hv
            go_simp
            (with_reducible refine ⟨rfl, ?_⟩; exact GA.pure Hv.out (by decide) (by decide) (by decide) (by decide))
          refine hK _ _ _ ?_
          clear hK K_
          refine step_gen2 (by decide) (by rfl) (fun K_ hK => ?_)
          go_simp
          with_reducible apply H2.one
          · intro σ wv hk_ hd hv
            obtain ⟨y0, y1, yf⟩ := hv.row
            have yp : wv.cell? ⟨Bb, j, none⟩ = some (ptr (N2 j).P) := by rw [HP2.out j]; exact (HPB3.out.kept hv.kp HBF2.out).c j hjn
            have Hv := Lib.hid hv
            clear hv
            go_simp
            (with_reducible refine ⟨rfl, ?_⟩; exact GA.pure Hv.out (by decide) (by decide) (by decide) (by decide))
          refine hK _ _ _ ?_
          clear hK K_
          refine step_gen2 (by decide) (by rfl) (fun K_ hK => ?_)
          go_simp
          with_reducible apply H2.one
          · intro σ wv hk_ hd hv
            obtain ⟨y0, y1, yf⟩ := hv.row
            have yp : wv.cell? ⟨Bb, j, none⟩ = some (ptr (N2 j).P) := by rw [HP2.out j]; exact (HPB3.out.kept hv.kp HBF2.out).c j hjn
            have Hv := Lib.hid hv
            clear hv
            go_simp
            (with_reducible refine ⟨rfl, ?_⟩; exact GA.pure Hv.out (by decide) (by decide) (by decide) (by decide))
          refine hK _ _ _ ?_
          clear hK K_
          refine step_gen2 (by decide) (by rfl) (fun K_ hK => ?_)
          go_simp
          with_reducible apply H2.one
          · intro σ wv hk_ hd hv
            obtain ⟨y0, y1, yf⟩ := hv.row
            have yp : wv.cell? ⟨Bb, j, none⟩ = some (ptr (N2 j).P) := by rw [HP2.out j]; exact (HPB3.out.kept hv.kp HBF2.out).c j hjn
            have Hv := Lib.hid hv
            clear hv
            go_simp
            (with_reducible refine ⟨rfl, ?_⟩; exact GA.pure Hv.out (by decide) (by decide) (by decide) (by decide))
          refine hK _ _ _ ?_
          clear hK K_
          refine step_gen2 (by decide) (by rfl) (fun K_ hK => ?_)
          go_simp
          with_reducible apply H2.one
          · intro σ wv hk_ hd hv
            obtain ⟨y0, y1, yf⟩ := hv.row
            have yp : wv.cell? ⟨Bb, j, none⟩ = some (ptr (N2 j).P) := by rw [HP2.out j]; exact (HPB3.out.kept hv.kp HBF2.out).c j hjn
            have Hv := Lib.hid hv
            clear hv
            go_simp
            (with_reducible refine ⟨rfl, ?_⟩; exact GA.pure Hv.out (by decide) (by decide) (by decide) (by decide))
          refine hK _ _ _ ?_
          clear hK K_
          refine step_gen2 (by decide) (by rfl) (fun K_ hK => ?_)
          go_simp
          with_reducible apply H2.tr
          · intro σ wv hk_ hd hv
            have Hv := Lib.hid hv
            clear hv
            go_simp
            (refine (GA.call Hv.out hjn hk_).mono ?_
             rintro e2 w3_ ⟨rfl, h3_⟩
             exact ⟨_, rfl, rfl, h3_⟩)
          refine hK _ _ _ ?_
          clear hK K_
          refine step_gen2 (by decide) (by rfl) (fun K_ hK => ?_)
          go_simp
          with_reducible refine H2.any IsSlice ⟨_, .mk none 0 0⟩ ?_ ?_
          · intro σ wv hk_ hd hv
            obtain ⟨z_, w3_, hr_, hs_, h3_⟩ := hv.app HLN2.out (hd.get 4 (List.mem_cons_of_mem _ (List.mem_cons_self ..)) (by kernel_rfl)) (hd.get 12 (List.mem_cons_self ..) (by kernel_rfl)) hk_
            exact runAt_append rfl rfl rfl hr_ ⟨hs_, h3_⟩
          intro v_ hv_
          obtain ⟨up_, un_, uc_⟩ := hv_
          refine hK _ _ _ ?_
          clear hK K_
          refine step_gen2 (by decide) (by rfl) (fun K_ hK => ?_)
          go_simp
          with_reducible apply H2.one
          · intro σ wv hk_ hd hv
            obtain ⟨y0, y1, yf⟩ := hv.row
            have yp : wv.cell? ⟨Bb, j, none⟩ = some (ptr (N2 j).P) := by rw [HP2.out j]; exact (HPB3.out.kept hv.kp HBF2.out).c j hjn
            have Hv := Lib.hid hv
            clear hv
            go_simp
            (with_reducible refine ⟨rfl, ?_⟩; exact GA.pure Hv.out (by decide) (by decide) (by decide) (by decide))
          refine hK _ _ _ ?_
          clear hK K_
          refine step_gen2 (by decide) (by rfl) (fun K_ hK => ?_)
          go_simp
          with_reducible apply H2.one
          · intro σ wv hk_ hd hv
            obtain ⟨y0, y1, yf⟩ := hv.row
            have yp : wv.cell? ⟨Bb, j, none⟩ = some (ptr (N2 j).P) := by rw [HP2.out j]; exact (HPB3.out.kept hv.kp HBF2.out).c j hjn
            have Hv := Lib.hid hv
            clear hv
            go_simp
            (with_reducible refine ⟨rfl, ?_⟩; exact GA.pure Hv.out (by decide) (by decide) (by decide) (by decide))
          refine hK _ _ _ ?_
          clear hK K_
          refine step_gen2 (by decide) (by rfl) (fun K_ hK => ?_)
          go_simp
          with_reducible apply H2.one
          · intro σ wv hk_ hd hv
            obtain ⟨y0, y1, yf⟩ := hv.row
            have h13_ := hd.get 13 (List.mem_cons_self ..) (by kernel_rfl)
            have Hv := Lib.hid hv
            clear hv
            go_simp
            exact ⟨rfl, GA.store Hv.out h13_ hk_⟩
          refine hK _ _ _ ?_
          clear hK K_
          refine nil_gen ?_
          intro σ w9 hall ht hv
          obtain ⟨zz, hzz⟩ := Option.isSome_iff_exists.1 (hall 16 (by decide))
          obtain ⟨lv9, q9, st9⟩ := hv.d zz hzz
          have HQ9 := Lib.hid q9
          have HS9 := Lib.hid (HST2.out.trans st9)
          have hn6 := HG.out.2.2.2.2.2
          clear hv hall ht hzz zz σ q9 st9
          go_wp2
          go_roundw
          case rel =>
            refine ⟨j + 1, by omega, by go_num, lv9, _, ?_, HS9.out, fun k => ?_⟩
            · have e : gathN n U t (j + 1) = { t2.set j (t2.b j).out with l := t2.l ++ (t2.b j).x.ws } := by
                show (if U j = true then gat1 n (gathN n U t j) j else gathN n U t j) = _
                rw [if_pos hU]
                exact HE2.out
              rw [e]
              exact HQ9.out
            · rw [nset_P]; exact HP2.out k
          case measure => simp [intOf]; omega

        · as_aux_lemma =>
          have HWN := Lib.hid (show (t1.b j).x.wants = (0, false) by unfold Nd.wants; rw [if_neg h3])
          have HE2 := Lib.hid (show gat1 n (gathN n U t j) j = { t1.set j (t1.b j).out with l := t1.l ++ (t1.b j).x.ws } from (congrArg (fun z => gat1 n z j) HT.out).trans (gat1_n3 h3))
          clear h3
          go_upto_region 9 with (go_at_call 21; (with_reducible refine (HQ1.out.wants hjn HPT.out _ _ HWN.out).mono ?_); rintro e' w1 ⟨rfl, hw1⟩; obtain rfl := hw1.symm)
          have HQ2 := HQ1
          have HPB2 := HPB1
          have HBF2 := HBF1
          have HST2 := HST1
          have HP2 := HP1
          have HLN2 := Lib.hid (show t1.l.length + (t1.b j).x.ws.length ≤ 100000000 by have := HLJ.out; omega)
          refine region_gen (GA wr n Pt Bb (.slice (some ⟨Bb, 0, none⟩) n cb) lv1 N1 t1 j) (by kernel_rfl) (by kernel_rfl) (GA.start HQ2.out) ?_
          refine step_gen2 (by decide) (by rfl) (fun K_ hK => ?_)
          go_simp
          with_reducible apply H2.one
          · intro σ wv hk_ hd hv
            obtain ⟨y0, y1, yf⟩ := hv.row
            have yp : wv.cell? ⟨Bb, j, none⟩ = some (ptr (N1 j).P) := by rw [HP2.out j]; exact (HPB2.out.kept hv.kp HBF2.out).c j hjn
            have Hv := Lib.hid hv
            clear hv
            go_simp
            (with_reducible refine ⟨rfl, ?_⟩; exact GA.pure Hv.out (by decide) (by decide) (by decide) (by decide))
          refine hK _ _ _ ?_
          clear hK K_
          refine step_gen2 (by decide) (by rfl) (fun K_ hK => ?_)
          go_simp
          with_reducible apply H2.one
          · intro σ wv hk_ hd hv
            obtain ⟨y0, y1, yf⟩ := hv.row
            have yp : wv.cell? ⟨Bb, j, none⟩ = some (ptr (N1 j).P) := by rw [HP2.out j]; exact (HPB2.out.kept hv.kp HBF2.out).c j hjn
            have Hv := Lib.hid hv
            clear hv
            go_simp
            (with_reducible refine ⟨rfl, ?_⟩; exact GA.pure Hv.out (by decide) (by decide) (by decide) (by decide))
          refine hK _ _ _ ?_
          clear hK K_
          refine step_gen2 (by decide) (by rfl) (fun K_ hK => ?_)
          go_simp
          with_reducible apply H2.one
          · intro σ wv hk_ hd hv
            obtain ⟨y0, y1, yf⟩ := hv.row
            have yp : wv.cell? ⟨Bb, j, none⟩ = some (ptr (N1 j).P) := by rw [HP2.out j]; exact (HPB2.out.kept hv.kp HBF2.out).c j hjn
            have Hv := Lib.hid hv
            clear hv
            go_simp
            (with_reducible refine ⟨rfl, ?_⟩; exact GA.pure Hv.out (by decide) (by decide) (by decide) (by decide))
          refine hK _ _ _ ?_
          clear hK K_
          refine step_gen2 (by decide) (by rfl) (fun K_ hK => ?_)
          go_simp
          with_reducible apply H2.one
          · intro σ wv hk_ hd hv
            obtain ⟨y0, y1, yf⟩ := hv.row
            have yp : wv.cell? ⟨Bb, j, none⟩ = some (ptr (N1 j).P) := by rw [HP2.out j]; exact (HPB2.out.kept hv.kp HBF2.out).c j hjn
            have Hv := Lib.hid hv
            clear hv
            go_simp
            (with_reducible refine ⟨rfl, ?_⟩; exact GA.pure Hv.out (by decide) (by decide) (by decide) (by decide))
          refine hK _ _ _ ?_
          clear hK K_
          refine step_gen2 (by decide) (by rfl) (fun K_ hK => ?_)
          go_simp
          with_reducible apply H2.tr
          · intro σ wv hk_ hd hv
            have y1 := hv.cell1 hk_
            have Hv := Lib.hid hv
            clear hv
            go_simp
            (with_reducible refine ⟨rfl, ?_⟩; exact GA.load Hv.out)
          refine hK _ _ _ ?_
          clear hK K_
          refine step_gen2 (by decide) (by rfl) (fun K_ hK => ?_)
          go_simp
          with_reducible apply H2.one
          · intro σ wv hk_ hd hv
            obtain ⟨y0, y1, yf⟩ := hv.row
            have yp : wv.cell? ⟨Bb, j, none⟩ = some (ptr (N1 j).P) := by rw [HP2.out j]; exact (HPB2.out.kept hv.kp HBF2.out).c j hjn
            have Hv := Lib.hid hv
            clear hv
            go_simp
            (with_reducible refine ⟨rfl, ?_⟩; exact GA.pure Hv.out (by decide) (by decide) (by decide) (by decide))
          refine hK _ _ _ ?_
          clear hK K_
          refine step_gen2 (by decide) (by rfl) (fun K_ hK => ?_)
          go_simp
          with_reducible apply H2.one
          · intro σ wv hk_ hd hv
            obtain ⟨y0, y1, yf⟩ := hv.row
            have yp : wv.cell? ⟨Bb, j, none⟩ = some (ptr (N1 j).P) := by rw [HP2.out j]; exact (HPB2.out.kept hv.kp HBF2.out).c j hjn
            have Hv := Lib.hid hv
            clear hv
            go_simp
            (with_reducible refine ⟨rfl, ?_⟩; exact GA.pure Hv.out (by decide) (by decide) (by decide) (by decide))
          refine hK _ _ _ ?_
          clear hK K_
          refine step_gen2 (by decide) (by rfl) (fun K_ hK => ?_)
          go_simp
          with_reducible apply H2.one
          · intro σ wv hk_ hd hv
            obtain ⟨y0, y1, yf⟩ := hv.row
            have yp : wv.cell? ⟨Bb, j, none⟩ = some (ptr (N1 j).P) := by rw [HP2.out j]; exact (HPB2.out.kept hv.kp HBF2.out).c j hjn
            have Hv := Lib.hid hv
            clear hv
            go_simp
            (with_reducible refine ⟨rfl, ?_⟩; exact GA.pure Hv.out (by decide) (by decide) (by decide) (by decide))
          refine hK _ _ _ ?_
          clear hK K_
          refine step_gen2 (by decide) (by rfl) (fun K_ hK => ?_)
          go_simp
          with_reducible apply H2.one
          · intro σ wv hk_ hd hv
            obtain ⟨y0, y1, yf⟩ := hv.row
            have yp : wv.cell? ⟨Bb, j, none⟩ = some (ptr (N1 j).P) := by rw [HP2.out j]; exact (HPB2.out.kept hv.kp HBF2.out).c j hjn
            have Hv := Lib.hid hv
            clear hv
            go_simp
            (with_reducible refine ⟨rfl, ?_⟩; exact GA.pure Hv.out (by decide) (by decide) (by decide) (by decide))
          refine hK _ _ _ ?_
          clear hK K_
          refine step_gen2 (by decide) (by rfl) (fun K_ hK => ?_)
          go_simp
          with_reducible apply H2.one
          · intro σ wv hk_ hd hv
            obtain ⟨y0, y1, yf⟩ := hv.row
            have yp : wv.cell? ⟨Bb, j, none⟩ = some (ptr (N1 j).P) := by rw [HP2.out j]; exact (HPB2.out.kept hv.kp HBF2.out).c j hjn
            have Hv := Lib.hid hv
            clear hv
            go_simp
            (with_reducible refine ⟨rfl, ?_⟩; exact GA.pure Hv.out (by decide) (by decide) (by decide) (by decide))
          refine hK _ _ _ ?_
          clear hK K_
          refine step_gen2 (by decide) (by rfl) (fun K_ hK => ?_)
          go_simp
          with_reducible apply H2.one
          · intro σ wv hk_ hd hv
            obtain ⟨y0, y1, yf⟩ := hv.row
            have yp : wv.cell? ⟨Bb, j, none⟩ = some (ptr (N1 j).P) := by rw [HP2.out j]; exact (HPB2.out.kept hv.kp HBF2.out).c j hjn
            have Hv := Lib.hid hv
            clear hv
            go_simp
            (with_reducible refine ⟨rfl, ?_⟩; exact GA.pure Hv.out (by decide) (by decide) (by decide) (by decide))
          refine hK _ _ _ ?_
          clear hK K_
          refine step_gen2 (by decide) (by rfl) (fun K_ hK => ?_)
          go_simp
          with_reducible apply H2.one
          · intro σ wv hk_ hd hv
            obtain ⟨y0, y1, yf⟩ := hv.row
            have yp : wv.cell? ⟨Bb, j, none⟩ = some (ptr (N1 j).P) := by rw [HP2.out j]; exact (HPB2.out.kept hv.kp HBF2.out).c j hjn
            have Hv := Lib.hid hv
            clear hv
            go_simp
            (with_reducible refine ⟨rfl, ?_⟩; exact GA.pure Hv.out (by decide) (by decide) (by decide) (by decide))
          refine hK _ _ _ ?_
          clear hK K_
          refine step_gen2 (by decide) (by rfl) (fun K_ hK => ?_)
          go_simp
          with_reducible apply H2.tr
          · intro σ wv hk_ hd hv
            have Hv := Lib.hid hv
            clear hv
            go_simp
            (refine (GA.call Hv.out hjn hk_).mono ?_
             rintro e2 w3_ ⟨rfl, h3_⟩
             exact ⟨_, rfl, rfl, h3_⟩)
          refine hK _ _ _ ?_
          clear hK K_
          refine step_gen2 (by decide) (by rfl) (fun K_ hK => ?_)
          go_simp
          with_reducible refine H2.any IsSlice ⟨_, .mk none 0 0⟩ ?_ ?_
          · intro σ wv hk_ hd hv
            obtain ⟨z_, w3_, hr_, hs_, h3_⟩ := hv.app HLN2.out (hd.get 4 (List.mem_cons_of_mem _ (List.mem_cons_self ..)) (by kernel_rfl)) (hd.get 12 (List.mem_cons_self ..) (by kernel_rfl)) hk_
            exact runAt_append rfl rfl rfl hr_ ⟨hs_, h3_⟩
          intro v_ hv_
          obtain ⟨up_, un_, uc_⟩ := hv_
          refine hK _ _ _ ?_
          clear hK K_
          refine step_gen2 (by decide) (by rfl) (fun K_ hK => ?_)
          go_simp
          with_reducible apply H2.one
          · intro σ wv hk_ hd hv
            obtain ⟨y0, y1, yf⟩ := hv.row
            have yp : wv.cell? ⟨Bb, j, none⟩ = some (ptr (N1 j).P) := by rw [HP2.out j]; exact (HPB2.out.kept hv.kp HBF2.out).c j hjn
            have Hv := Lib.hid hv
            clear hv
            go_simp
            (with_reducible refine ⟨rfl, ?_⟩; exact GA.pure Hv.out (by decide) (by decide) (by decide) (by decide))
          refine hK _ _ _ ?_
          clear hK K_
          refine step_gen2 (by decide) (by rfl) (fun K_ hK => ?_)
          go_simp
          with_reducible apply H2.one
          · intro σ wv hk_ hd hv
            obtain ⟨y0, y1, yf⟩ := hv.row
            have yp : wv.cell? ⟨Bb, j, none⟩ = some (ptr (N1 j).P) := by rw [HP2.out j]; exact (HPB2.out.kept hv.kp HBF2.out).c j hjn
            have Hv := Lib.hid hv
            clear hv
            go_simp
            (with_reducible refine ⟨rfl, ?_⟩; exact GA.pure Hv.out (by decide) (by decide) (by decide) (by decide))
          refine hK _ _ _ ?_
          clear hK K_
          refine step_gen2 (by decide) (by rfl) (fun K_ hK => ?_)
          go_simp
          with_reducible apply H2.one
          · intro σ wv hk_ hd hv
            obtain ⟨y0, y1, yf⟩ := hv.row
            have h13_ := hd.get 13 (List.mem_cons_self ..) (by kernel_rfl)
            have Hv := Lib.hid hv
            clear hv
            go_simp
            exact ⟨rfl, GA.store Hv.out h13_ hk_⟩
          refine hK _ _ _ ?_
          clear hK K_
          refine nil_gen ?_
          intro σ w9 hall ht hv
          obtain ⟨zz, hzz⟩ := Option.isSome_iff_exists.1 (hall 16 (by decide))
          obtain ⟨lv9, q9, st9⟩ := hv.d zz hzz
          have HQ9 := Lib.hid q9
          have HS9 := Lib.hid (HST2.out.trans st9)
          have hn6 := HG.out.2.2.2.2.2
          clear hv hall ht hzz zz σ q9 st9
          go_wp2
          go_roundw
          case rel =>
            refine ⟨j + 1, by omega, by go_num, lv9, _, ?_, HS9.out, fun k => ?_⟩
            · have e : gathN n U t (j + 1) = { t1.set j (t1.b j).out with l := t1.l ++ (t1.b j).x.ws } := by
                show (if U j = true then gat1 n (gathN n U t j) j else gathN n U t j) = _
                rw [if_pos hU]
                exact HE2.out
              rw [e]
              exact HQ9.out
            · rw [nset_P]; exact HP2.out k
          case measure => simp [intOf]; omega
    · obtain rfl : j = n := by omega
      go_wp2
      go_end0
      exact ⟨rfl, lv1, N1, hq, hst, hP⟩
end Go.Proofs.Ytccmnphjiebiaaa
