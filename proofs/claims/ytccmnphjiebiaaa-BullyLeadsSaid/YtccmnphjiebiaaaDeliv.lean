/- All words that are on their way come, again and again: deliver. Conditions: the town lies whole in memory, and is a good one. -/
import Derived.Test.YtccmnphjiebiaaaGath
import Derived.Test.YtccmnphjiebiaaaRd
namespace Go.Proofs.Ytccmnphjiebiaaa
open Go.RowKit G
set_option linter.unusedVariables false
set_option linter.unusedSimpArgs false
attribute [local go_sem] upon_value upon_skip upon_enter runAt_run
section
variable {w w' : World} {n Pt k i m : Nat} {bv cv lv u : Value} {N : Nat → NL} {t : Tw} {s' : PN} {U : Nat → Bool}
/-- The words are forgotten. -/
theorem TQ.drop (h : TQ w n Pt bv (.slice none 0 0) lv N t) : TQ w n Pt bv (.slice none 0 0) (.slice none 0 0) N { t with l := [] } ∧ Stp (ft n Pt lv N) (ft n Pt (.slice none 0 0) N) w w :=
  ⟨⟨h.r, h.nd, RowA.nil w, h.s1, fun k hk => ⟨(h.s2 k hk).1, fun c hc => by rw [own_none] at hc; cases hc⟩, by rw [own_none]; simp⟩, Kept.refl _ _, fun c hc => by
    rcases ft_mem.1 hc with rfl | hc | hc
    · exact .inl (ft_mem.2 (.inl rfl))
    · rw [own_none] at hc; cases hc
    · exact .inl (ft_mem.2 (.inr (.inr hc)))⟩
theorem TQ.apart (h : TQ w n Pt bv cv lv N t) : ∀ c ∈ own lv, c ∉ ft n Pt (.slice none 0 0) N := by
  intro c hc hm
  rcases ft_mem.1 hm with rfl | hm | ⟨k, hk, hm⟩
  · exact h.s3 hc
  · rw [own_none] at hm; cases hm
  · exact (h.s2 k hk).2 c hc hm
theorem puts_at (hn : n ≤ 5) (hT : t.T ≤ 1000000) (hg : G n U t []) (hb : Rb n t) (hp : PA i 0 n t) (q : Nat) : G n U (puts n U { t with l := [] } (t.l.take q)) (t.l.drop q) ∧ PA i (5 * q) n (puts n U { t with l := [] } (t.l.take q)) ∧ (puts n U { t with l := [] } (t.l.take q)).T = t.T := by
  have hg' : G n U { t with l := [] } (t.l.take q ++ t.l.drop q) := by rw [List.take_append_drop]; exact hg.move
  obtain ⟨a, -, c⟩ := puts_ind2 (U := U) (Inv := fun _ _ => True) (fun _ => True) (t.l.drop q) (fun _ _ _ _ _ _ _ => trivial) (t.l.take q) { t with l := [] } hT (fun _ _ => trivial) hg' trivial
  obtain ⟨d, -⟩ := puts_pa (U := U) (i := i) (cur := t.l.drop q) hn 0 (t.l.take q) { t with l := [] } hT hg' hp
  exact ⟨a, d.more (Nat.le_refl _) (by have := List.length_take_le q t.l; omega), c⟩
theorem puts_succ {t0 : Tw} {l : List Wd} {q : Nat} {y : Wd} (h : l[q]? = some y) : puts n U t0 (l.take (q + 1)) = put1 n U (puts n U t0 (l.take q)) y := by
  have e : l.take (q + 1) = l.take q ++ [y] := by rw [List.take_add_one, h]; rfl
  rw [e, puts_append]
  rfl
end
set_option maxHeartbeats 8000000 in
set_option maxRecDepth 100000 in
theorem deliver_any {w : World} {n Pt Bb cb Ub cu i : Nat} {lv : Value} {N : Nat → NL} {t : Tw} {U : Nat → Bool} (h : TQ w n Pt (.slice (some ⟨Bb, 0, none⟩) n cb) lv lv N t)
    (hpb : Pb w Bb n fun k => (N k).P) (hbf : Bb ∉ ft n Pt lv N) (hub : Bs w Ub n U) (huf : Ub ∉ ft n Pt lv N) (hg : G n U t []) (hrb : Rb n t) (hT : t.T + 200 ≤ 1000000) (hpa : PA i 0 n t) (hbl : Bl n U 0 t) (hn : n ≤ 5) :
    Calls Try.prog 26 #[ptr Pt, .slice (some ⟨Ub, 0, none⟩) n cu] w fun e w' => e = .returned (.tuple #[]) ∧ ∃ lv' N', TQ w' n Pt (.slice (some ⟨Bb, 0, none⟩) n cb) lv' lv' N' (dlv n U 20 t) ∧ Stp (ft n Pt lv N) (ft n Pt lv' N') w w' ∧ ∀ k, (N' k).P = (N k).P := by
  have HPB := Lib.hid hpb
  have HUB := Lib.hid hub
  have HF := Lib.hid (And.intro hbf huf)
  have HG := Lib.hid (And.intro hg (And.intro hT (And.intro hpa (And.intro hrb (And.intro hbl hn)))))
  have HH := Lib.hid h
  clear h hpb hub hbf huf hg hT hpa hrb hbl hn
  go_enter Try.func26, Try.ntmps26
  go_wp2
  go_loopw [4] (fun vi wr => ∃ j : Nat, j ≤ 20 ∧ vi = .int .i64 j ∧ ∃ lv' N' tc, TQ wr n Pt (.slice (some ⟨Bb, 0, none⟩) n cb) lv' lv' N' tc ∧ Stp (ft n Pt lv N) (ft n Pt lv' N') w wr ∧ (∀ k, (N' k).P = (N k).P) ∧ G n U tc [] ∧ tc.T ≤ t.T + j * n ∧ PA i 0 n tc ∧ Rb n tc ∧ Bl n U j tc ∧ dlv n U (20 - j) tc = dlv n U 20 t) (fun vi _ => 20 - (intOf vi).toNat)
  case atStart => exact ⟨0, Nat.zero_le _, rfl, lv, N, t, HH.out, Stp.refl _ _, fun _ => rfl, HG.out.1, by omega, HG.out.2.2.1, HG.out.2.2.2.1, HG.out.2.2.2.2.1, rfl⟩
  case round =>
    obtain ⟨j, hj, rfl, lv1, N1, tc, hq, hst, hP, hg1, hT1, hpa1, hrb1, hbl1, hd1⟩ := hrel
    obtain ⟨pl, cl, hlv⟩ := hq.l.len
    have x1 := hq.r.cell 1 _ rfl
    rw [hlv] at x1
    have hTT : tc.T + n ≤ 1000000 := by
      have := HG.out.2.1
      have := HG.out.2.2.2.2.2
      have : (j : Int) * n ≤ 20 * 5 := Int.mul_le_mul (by omega) (by omega) (by omega) (by omega)
      omega
    have HB := Lib.hid (And.intro hg1 (And.intro hT1 (And.intro hpa1 (And.intro hrb1 (And.intro hbl1 (And.intro hd1 hTT))))))
    have HQ := Lib.hid hq
    have HST := Lib.hid hst
    have HP := Lib.hid hP
    clear hg1 hT1 hpa1 hrb1 hbl1 hd1 hTT hq hst hP
    by_cases hl0 : tc.l = []
    · as_aux_lemma =>
      have hln : tc.l.length = 0 := by rw [hl0]; rfl
      rw [hln] at x1
      have HE := Lib.hid (show dlv n U 20 t = tc by rw [← HB.out.2.2.2.2.2.1]; exact dlv_id hl0 _)
      clear hlv
      by_cases hj20 : j < 20
      · have hjd : decide ((j : Int) < 20) = true := by simp; omega
        go_wp2
        go_end0
        exact ⟨rfl, lv1, N1, by rw [HE.out]; exact HQ.out, HST.out, HP.out⟩
      · have hjd : decide ((j : Int) < 20) = false := by simp; omega
        go_wp2
        go_end0
        exact ⟨rfl, lv1, N1, by rw [HE.out]; exact HQ.out, HST.out, HP.out⟩
    · have hj4 : j ≤ 4 := by
        rcases Nat.lt_or_ge j 5 with hh | hh
        · omega
        · exact absurd (HB.out.2.2.2.2.1.z hh) hl0
      have hjd : decide ((j : Int) < 20) = true := by simp; omega
      have hlp : 0 < tc.l.length := List.length_pos_iff.2 hl0
      have hlp2 : (0 : Int) < (tc.l.length : Int) := by omega
      have hl8 : tc.l.length ≤ 81240 := Nat.le_trans (HB.out.2.2.2.2.1.l hj4) (bn_le hj4)
      have xf := HQ.out.r.free
      rcases HQ.out.l.form with ⟨-, hnil⟩ | ⟨g, off, cap, hlv2⟩
      · exact absurd hnil hl0
      have HL0 := Lib.hid hl0
      have HLV := Lib.hid hlv2
      rw [hlv] at hlv2
      injection hlv2 with e1 e2 e3
      subst e1 e3
      clear e2 hlv hl0
      go_upto_region 5 with (fail)
      obtain ⟨q1, st1⟩ := HQ.out.setL (.slice none 0 0)
      have HAP := Lib.hid (show ∀ c ∈ own lv1, c ∉ ft n Pt (.slice none 0 0) N1 from HQ.out.apart)
      have HRA := Lib.hid (show RowA (wr.setCell ⟨Pt, 1, none⟩ (.slice none 0 0)) lv1 tc.l from q1.l)
      obtain ⟨q2, st2⟩ := q1.drop
      have HQ2 := Lib.hid q2
      have HST2 := Lib.hid (HST.out.trans (st1.trans st2))
      clear q1 st1 q2 st2 x1 xf HQ HST
      generalize wr.setCell ⟨Pt, 1, none⟩ (.slice none 0 0) = w1 at HRA HQ2 HST2 ⊢
      have HPB1 := Lib.hid (HPB.out.kept HST2.out.keep HF.out.1)
      have HUB1 := Lib.hid (HUB.out.kept HST2.out.keep HF.out.2)
      have HF1 := Lib.hid (And.intro (show Bb ∉ ft n Pt (.slice none 0 0) N1 from fun hm => (HST2.out.new _ hm).elim HF.out.1 (fun hh => by have := HPB.out.lt; omega)) (show Ub ∉ ft n Pt (.slice none 0 0) N1 from fun hm => (HST2.out.new _ hm).elim HF.out.2 (fun hh => by have := HUB.out.lt; omega)))
      rw [HLV.out] at HAP HRA
      go_wp2
      go_loopw [6] (fun vi wr2 => ∃ q : Nat, q ≤ tc.l.length ∧ vi = .int .i64 q ∧ ∃ N2, TQ wr2 n Pt (.slice (some ⟨Bb, 0, none⟩) n cb) (.slice none 0 0) (.slice none 0 0) N2 (puts n U { tc with l := [] } (tc.l.take q)) ∧ Stp (ft n Pt (.slice none 0 0) N1) (ft n Pt (.slice none 0 0) N2) w1 wr2 ∧ ∀ k, (N2 k).P = (N k).P) (fun vi _ => tc.l.length - (intOf vi).toNat)
      case atStart => exact ⟨0, Nat.zero_le _, rfl, N1, HQ2.out, Stp.refl _ _, HP.out⟩
      case round =>
        obtain ⟨q, hq, rfl, N2, hq2, hst2, hP2⟩ := hrel
        by_cases hql : q < tc.l.length
        · as_aux_lemma =>
          have hqi : (q : Int) < (tc.l.length : Int) := by omega
          have hy := List.getElem?_eq_getElem hql
          obtain ⟨y, hye⟩ : ∃ y, tc.l[q] = y := ⟨_, rfl⟩
          rw [hye] at hy
          obtain ⟨hgq, hpq, hTq⟩ := puts_at HG.out.2.2.2.2.2 (by have := HB.out.2.2.2.2.2.2; omega) HB.out.1 HB.out.2.2.2.1 HB.out.2.2.1 q
          have hdrop : tc.l.drop q = y :: tc.l.drop (q + 1) := by rw [List.drop_eq_getElem_cons hql, hye]
          rw [hdrop] at hgq
          have hsucc := puts_succ (n := n) (U := U) (t0 := { tc with l := [] }) hy
          obtain ⟨tq, htq⟩ : ∃ z, puts n U { tc with l := [] } (tc.l.take q) = z := ⟨_, rfl⟩
          rw [htq] at hgq hpq hTq hsucc hq2
          have hra := HRA.out.kept hst2.keep HAP.out
          obtain ⟨r0, r1, r2, r3⟩ := hra.read hy
          have x0 := hq2.r.cell 0 _ rfl
          obtain ⟨f, kt, hf, hkt, hf5, hk5, -⟩ := hgq.w y (pend_cons.2 (.inl rfl))
          have hup := (HUB1.out.kept hst2.keep HF1.out.2).c kt hk5
          have hpt := (HPB1.out.kept hst2.keep HF1.out.1).c kt hk5
          have hc := put_cases hgq
          obtain ⟨yk, yf, yt, ym⟩ := y
          simp only at hkt hf
          subst hkt
          simp only at r0 r1 r2 r3
          have hk5i : (kt : Int) < (n : Int) := by omega
          have hk0i : (0 : Int) ≤ (kt : Int) := by omega
          have HQ3 := Lib.hid hq2
          have HST3 := Lib.hid hst2
          have HP3 := Lib.hid hP2
          have HPQ := Lib.hid hpq
          have HSU := Lib.hid hsucc
          have HC := Lib.hid hc
          have HRD := Lib.hid hra
          have HY := Lib.hid hy
          have hn5 := HG.out.2.2.2.2.2
          clear hq2 hst2 hP2 hpq hsucc hc hra hgq hTq hdrop htq hye hf hf5 hy
          cases hU : U kt
          · rw [hU] at hup
            go_upto_region 8 with (fail)
            refine region_gen (Rd wr) (by kernel_rfl) (by kernel_rfl) (Rd.start _) ?_
            repeat
              (refine step_gen (by decide) (by rfl) (fun K_ hK => ?_)
               go_simp
               first
                 | (with_reducible refine Sk.of Rd.skips ?_
                    refine hK _ _ _ ?_
                    clear hK K_)
                 | (with_reducible apply H1.one
                    · intro σ wv hk_ hd hv
                      obtain ⟨⟨m_, rfl⟩⟩ := hv
                      go_simp
                      (with_reducible refine ⟨rfl, ?_⟩; exact ⟨m_, rfl⟩)
                    refine hK _ _ _ ?_
                    clear hK K_))
            refine nil_gen ?_
            rintro σ wv - - ⟨⟨nq, rfl⟩⟩
            clear σ
            go_wp2
            go_roundw
            case rel =>
              refine ⟨q + 1, by omega, by go_num, N2, ?_, HST3.out.drewN _, HP3.out⟩
              rw [HSU.out]
              rcases HC.out with ⟨e, -⟩ | ⟨k', hk', hU', hw', -⟩
              · rw [e]; exact HQ3.out.drewN _
              · exfalso
                have : k' = kt := by simp only at hw'; omega
                subst this
                rw [hU] at hU'; cases hU'
            case measure => simp [intOf]; omega
          · rw [hU] at hup
            go_upto_region 8 with (fail)
            refine region_gen (Rd wr) (by kernel_rfl) (by kernel_rfl) (Rd.start _) ?_
            repeat
              (refine step_gen (by decide) (by rfl) (fun K_ hK => ?_)
               go_simp
               first
                 | (with_reducible refine Sk.of Rd.skips ?_
                    refine hK _ _ _ ?_
                    clear hK K_)
                 | (with_reducible apply H1.one
                    · intro σ wv hk_ hd hv
                      obtain ⟨⟨m_, rfl⟩⟩ := hv
                      go_simp
                      (with_reducible refine ⟨rfl, ?_⟩; exact ⟨m_, rfl⟩)
                    refine hK _ _ _ ?_
                    clear hK K_))
            refine nil_gen ?_
            rintro σ wv - - ⟨⟨nq, rfl⟩⟩
            clear σ
            go_upto_region 9 with (fail)
            have HQ3a := Lib.hid (HQ3.out.drewN nq)
            have HST3a := Lib.hid (HST3.out.drewN nq)
            have HRDa := Lib.hid (HRD.out.kept ((Kept.refl [] wr).drewN nq) (fun _ _ hm => by cases hm))
            have hup2 : (wr.drewN nq).cell? ⟨Ub, kt, none⟩ = some (.bool true) := hup
            have hpt2 : (wr.drewN nq).cell? ⟨Bb, kt, none⟩ = some (ptr (N2 kt).P) := by rw [HP3.out kt]; exact hpt
            clear hup hpt x0 r0 r1 r2 r3 HQ3 HST3 HRD
            generalize wr.drewN nq = w4 at HQ3a HST3a HRDa hup2 hpt2 ⊢
            obtain ⟨cE, hcE⟩ : ∃ z, checkE (tq.b kt).x.n (tq.b kt).x.self ⟨yk, yf, kt, ym⟩ = z := ⟨_, rfl⟩
            have HCE := Lib.hid hcE
            clear hcE
            have HPBx := Lib.hid (HPB1.out.kept HST3a.out.keep HF1.out.1)
            have HBFx := Lib.hid (show Bb ∉ ft n Pt (.slice none 0 0) N2 from fun hm => (HST3a.out.new _ hm).elim HF1.out.1 (fun hh => by have := HPB1.out.lt; omega))
            have HAPx := Lib.hid (show ∀ c ∈ own (.slice (some ⟨g, off, none⟩) tc.l.length cl), c ∉ ft n Pt (.slice none 0 0) N2 from fun c hc hm => (HST3a.out.new _ hm).elim (HAP.out c hc) (fun hh => by have := HRA.out.lts c hc; omega))
            have ya0 := HQ3a.out.r.cell 0 _ rfl
            obtain ⟨s0, s1, s2, s3⟩ := HRDa.out.read HY.out
            simp only at s0 s1 s2 s3
            refine region_gen (Cl 15 w4 (fun wv => wv.cell? ⟨Pt, 0, none⟩ = some (.slice (some ⟨Bb, 0, none⟩) n cb) ∧ wv.cell? ⟨Bb, kt, none⟩ = some (ptr (N2 kt).P) ∧ wv.cell? ⟨g, off + q * 4, none⟩ = some (.int .i64 yk) ∧ wv.cell? ⟨g, off + q * 4 + 1, none⟩ = some (.int .i64 yf) ∧ wv.cell? ⟨g, off + q * 4 + 2, none⟩ = some (.int .i64 kt) ∧ wv.cell? ⟨g, off + q * 4 + 3, none⟩ = some (.int .i64 ym)) (fun _ wv => ∃ u, TQ wv n Pt (.slice (some ⟨Bb, 0, none⟩) n cb) (.slice none 0 0) (.slice none 0 0) (nset N2 kt u) (tq.set kt ((tq.b kt).take ⟨yk, yf, kt, ym⟩)) ∧ Stp (ft n Pt (.slice none 0 0) N2) (ft n Pt (.slice none 0 0) (nset N2 kt u)) w4 wv)) (by kernel_rfl) (by kernel_rfl) (Cl.start ⟨ya0, hpt2, s0, s1, s2, s3⟩) ?_
            refine step_gen (by decide) (by rfl) (fun K_ hK => ?_)
            go_simp
            with_reducible apply H1.one
            · intro σ wv hk_ hd hv
              obtain ⟨y0, yp, r0, r1, r2, r3⟩ := hv.i
              have Hv := Lib.hid hv
              clear hv
              go_simp
              (with_reducible refine ⟨rfl, ?_⟩; exact Cl.pure Hv.out (by decide))
            refine hK _ _ _ ?_
            clear hK K_
            refine step_gen (by decide) (by rfl) (fun K_ hK => ?_)
            go_simp
            with_reducible apply H1.one
            · intro σ wv hk_ hd hv
              obtain ⟨y0, yp, r0, r1, r2, r3⟩ := hv.i
              have Hv := Lib.hid hv
              clear hv
              go_simp
              (with_reducible refine ⟨rfl, ?_⟩; exact Cl.pure Hv.out (by decide))
            refine hK _ _ _ ?_
            clear hK K_
            refine step_gen (by decide) (by rfl) (fun K_ hK => ?_)
            go_simp
            with_reducible apply H1.one
            · intro σ wv hk_ hd hv
              obtain ⟨y0, yp, r0, r1, r2, r3⟩ := hv.i
              have Hv := Lib.hid hv
              clear hv
              go_simp
              (with_reducible refine ⟨rfl, ?_⟩; exact Cl.pure Hv.out (by decide))
            refine hK _ _ _ ?_
            clear hK K_
            refine step_gen (by decide) (by rfl) (fun K_ hK => ?_)
            go_simp
            with_reducible apply H1.one
            · intro σ wv hk_ hd hv
              obtain ⟨y0, yp, r0, r1, r2, r3⟩ := hv.i
              have Hv := Lib.hid hv
              clear hv
              go_simp
              (with_reducible refine ⟨rfl, ?_⟩; exact Cl.pure Hv.out (by decide))
            refine hK _ _ _ ?_
            clear hK K_
            refine step_gen (by decide) (by rfl) (fun K_ hK => ?_)
            go_simp
            with_reducible apply H1.one
            · intro σ wv hk_ hd hv
              obtain ⟨y0, yp, r0, r1, r2, r3⟩ := hv.i
              have Hv := Lib.hid hv
              clear hv
              go_simp
              (with_reducible refine ⟨rfl, ?_⟩; exact Cl.pure Hv.out (by decide))
            refine hK _ _ _ ?_
            clear hK K_
            refine step_gen (by decide) (by rfl) (fun K_ hK => ?_)
            go_simp
            with_reducible apply H1.one
            · intro σ wv hk_ hd hv
              obtain ⟨y0, yp, r0, r1, r2, r3⟩ := hv.i
              have Hv := Lib.hid hv
              clear hv
              go_simp
              (with_reducible refine ⟨rfl, ?_⟩; exact Cl.pure Hv.out (by decide))
            refine hK _ _ _ ?_
            clear hK K_
            refine step_gen (by decide) (by rfl) (fun K_ hK => ?_)
            go_simp
            with_reducible apply H1.one
            · intro σ wv hk_ hd hv
              obtain ⟨y0, yp, r0, r1, r2, r3⟩ := hv.i
              have Hv := Lib.hid hv
              clear hv
              go_simp
              (with_reducible refine ⟨rfl, ?_⟩; exact Cl.pure Hv.out (by decide))
            refine hK _ _ _ ?_
            clear hK K_
            refine step_gen (by decide) (by rfl) (fun K_ hK => ?_)
            go_simp
            with_reducible apply H1.one
            · intro σ wv hk_ hd hv
              obtain ⟨y0, yp, r0, r1, r2, r3⟩ := hv.i
              have Hv := Lib.hid hv
              clear hv
              go_simp
              (with_reducible refine ⟨rfl, ?_⟩; exact Cl.pure Hv.out (by decide))
            refine hK _ _ _ ?_
            clear hK K_
            refine step_gen (by decide) (by rfl) (fun K_ hK => ?_)
            go_simp
            with_reducible apply H1.one
            · intro σ wv hk_ hd hv
              obtain ⟨y0, yp, r0, r1, r2, r3⟩ := hv.i
              have Hv := Lib.hid hv
              clear hv
              go_simp
              (with_reducible refine ⟨rfl, ?_⟩; exact Cl.pure Hv.out (by decide))
            refine hK _ _ _ ?_
            clear hK K_
            refine step_gen (by decide) (by rfl) (fun K_ hK => ?_)
            go_simp
            with_reducible apply H1.one
            · intro σ wv hk_ hd hv
              obtain ⟨y0, yp, r0, r1, r2, r3⟩ := hv.i
              have Hv := Lib.hid hv
              clear hv
              go_simp
              (with_reducible refine ⟨rfl, ?_⟩; exact Cl.pure Hv.out (by decide))
            refine hK _ _ _ ?_
            clear hK K_
            refine step_gen (by decide) (by rfl) (fun K_ hK => ?_)
            go_simp
            with_reducible apply H1.one
            · intro σ wv hk_ hd hv
              obtain ⟨y0, yp, r0, r1, r2, r3⟩ := hv.i
              have Hv := Lib.hid hv
              clear hv
              go_simp
              (with_reducible refine ⟨rfl, ?_⟩; exact Cl.pure Hv.out (by decide))
            refine hK _ _ _ ?_
            clear hK K_
            refine step_gen (by decide) (by rfl) (fun K_ hK => ?_)
            go_simp
            with_reducible apply H1.one
            · intro σ wv hk_ hd hv
              obtain ⟨y0, yp, r0, r1, r2, r3⟩ := hv.i
              have Hv := Lib.hid hv
              clear hv
              go_simp
              (with_reducible refine ⟨rfl, ?_⟩; exact Cl.pure Hv.out (by decide))
            refine hK _ _ _ ?_
            clear hK K_
            refine step_gen (by decide) (by rfl) (fun K_ hK => ?_)
            go_simp
            with_reducible apply H1.one
            · intro σ wv hk_ hd hv
              obtain ⟨y0, yp, r0, r1, r2, r3⟩ := hv.i
              have Hv := Lib.hid hv
              clear hv
              go_simp
              (with_reducible refine ⟨rfl, ?_⟩; exact Cl.pure Hv.out (by decide))
            refine hK _ _ _ ?_
            clear hK K_
            refine step_gen (by decide) (by rfl) (fun K_ hK => ?_)
            go_simp
            with_reducible apply H1.one
            · intro σ wv hk_ hd hv
              obtain ⟨y0, yp, r0, r1, r2, r3⟩ := hv.i
              have Hv := Lib.hid hv
              clear hv
              go_simp
              (with_reducible refine ⟨rfl, ?_⟩; exact Cl.pure Hv.out (by decide))
            refine hK _ _ _ ?_
            clear hK K_
            refine step_gen (by decide) (by rfl) (fun K_ hK => ?_)
            go_simp
            with_reducible apply H1.one
            · intro σ wv hk_ hd hv
              obtain ⟨y0, yp, r0, r1, r2, r3⟩ := hv.i
              have Hv := Lib.hid hv
              clear hv
              go_simp
              (with_reducible refine ⟨rfl, ?_⟩; exact Cl.pure Hv.out (by decide))
            refine hK _ _ _ ?_
            clear hK K_
            refine step_gen (by decide) (by rfl) (fun K_ hK => ?_)
            go_simp
            with_reducible apply H1.one
            · intro σ wv hk_ hd hv
              have Hv := Lib.hid hv
              clear hv
              go_simp
              (obtain ⟨m_, rfl⟩ := Hv.out.a hk_
               refine ((HQ3a.out.drewN m_).take hk5 (i := i) (m := 5 * q) (HPQ.out kt hk5) (by omega) yk yf kt ym cE HCE.out).mono ?_
               rintro e2 w3_ ⟨rfl, u3_, q3_, st3_⟩
               have hk0_ : Kept [] w4 (w4.drewN m_) := (Kept.refl [] w4).drewN m_
               have hpb3 := (HPBx.out.kept hk0_ (fun hm => by cases hm)).kept st3_.keep HBFx.out
               have hr3 := (HRDa.out.kept hk0_ (fun _ _ hm => by cases hm)).kept st3_.keep HAPx.out
               obtain ⟨v0, v1, v2, v3⟩ := hr3.read HY.out
               have hp3 : w3_.cell? ⟨Bb, kt, none⟩ = some (ptr (N2 kt).P) := by rw [HP3.out kt]; exact hpb3.c kt hk5
               exact ⟨_, rfl, rfl, Cl.call ⟨q3_.r.cell 0 _ rfl, hp3, v0, v1, v2, v3⟩ ⟨u3_, q3_, ⟨⟨st3_.keep.os, st3_.keep.tape, st3_.keep.output, st3_.keep.size, st3_.keep.block⟩, st3_.new⟩⟩⟩)
            refine hK _ _ _ ?_
            clear hK K_
            refine nil_gen ?_
            intro σ w5 hall ht hv
            obtain ⟨zz, hzz⟩ := Option.isSome_iff_exists.1 (hall 15 (by decide))
            obtain ⟨u5, q5, st5⟩ := hv.b zz hzz
            have HQ5 := Lib.hid q5
            have HST5 := Lib.hid (HST3a.out.trans st5)
            clear hv hall ht hzz zz σ q5 st5
            go_wp2
            go_roundw
            case rel =>
              refine ⟨q + 1, by omega, by go_num, nset N2 kt u5, ?_, HST5.out, fun k => by rw [nset_P]; exact HP3.out k⟩
              rw [HSU.out]
              rcases HC.out with ⟨-, hno⟩ | ⟨k', hk', hU', hw', e⟩
              · exact absurd (hno kt rfl hk5 hU) id
              · have : k' = kt := by simp only at hw'; omega
                subst this
                rw [e]; exact HQ5.out
            case measure => simp [intOf]; omega
        · obtain rfl : q = tc.l.length := by omega
          have hnq : ¬ ((tc.l.length : Int) < (tc.l.length : Int)) := by omega
          obtain ⟨hgq, hpq, hTq⟩ := puts_at HG.out.2.2.2.2.2 (by have := HB.out.2.2.2.2.2.2; omega) HB.out.1 HB.out.2.2.2.1 HB.out.2.2.1 tc.l.length
          rw [List.take_length] at hgq hpq hTq hq2
          rw [List.drop_length] at hgq
          have hpl : (puts n U { tc with l := [] } tc.l).l = [] := by
            have : ∀ (A : List Wd) (t : Tw), (puts n U t A).l = t.l := by
              intro A
              induction A with
              | nil => intro t; rfl
              | cons w A ih => intro t; exact (ih (put1 n U t w)).trans (put_T t w).2
            rw [this]
          have hws := wsum_le (t := puts n U { tc with l := [] } tc.l) (n := n) (m := 5 * tc.l.length) (fun k hk => (hpq k hk).bd.wl) n (Nat.le_refl _)
          have hn5 := HG.out.2.2.2.2.2
          have hnm : n * (5 * tc.l.length) ≤ 5 * (5 * 81240) := Nat.mul_le_mul hn5 (by omega)
          have HGA := Lib.hid (gather_any (cu := cu) hq2 (by rw [show (fun k => (N2 k).P) = fun k => (N k).P from funext hP2]; exact HPB1.out.kept hst2.keep HF1.out.1) (fun hm => (hst2.new _ hm).elim HF1.out.1 (fun hh => by have := HPB1.out.lt; omega)) (HUB1.out.kept hst2.keep HF1.out.2) (fun hm => (hst2.new _ hm).elim HF1.out.2 (fun hh => by have := HUB1.out.lt; omega)) hgq (by rw [hTq]; have := HB.out.2.2.2.2.2.2; show tc.T + n ≤ _; omega) hpq (by omega) (by rw [hpl]; simp; omega) hn5)
          have HST3 := Lib.hid (HST2.out.trans hst2)
          have HP3 := Lib.hid hP2
          clear hgq hpq hTq hpl hws hnm hq2 hst2 hP2
          go_wp2_with (go_at_call 25; (with_reducible refine HGA.out.mono ?_); rintro e' w3 ⟨rfl, lv3, N3_, hq3, hst3, hP3⟩; have HQ4 := Lib.hid hq3; have HST4 := Lib.hid (HST3.out.trans hst3); have HP4 := Lib.hid hP3; clear hq3 hst3 hP3)
          go_roundw
          case rel =>
            obtain ⟨b1, b2, b3, b4, b5, b6, b7⟩ := HB.out
            obtain ⟨c1, c2, c3⟩ := dlv1_g b1 b7
            have hmul : ((j + 1 : Nat) : Int) * n = j * n + n := by rw [Int.natCast_add, Int.add_mul]; simp
            refine ⟨j + 1, by omega, by go_num, lv3, N3_, dlv1 n U tc, HQ4.out, HST4.out, fun k => by rw [HP4.out k, HP3.out k], c1, by omega, ?_, dlv1_rb b1 b7 b4, Bl.step hn5 b1 b7 b4 b3 b5 hj4, ?_⟩
            · have := (puts_at hn5 (by omega) b1 b4 b3 tc.l.length).2.1
              rw [List.take_length] at this
              exact (this.gath (U := U)).rest (dlv1_rb b1 b7 b4)
            · rw [← b6]
              have e : 20 - j = (20 - (j + 1)) + 1 := by omega
              rw [e]
              conv => rhs; unfold dlv
              rw [if_neg HL0.out]
          case measure => simp [intOf]; omega
end Go.Proofs.Ytccmnphjiebiaaa
