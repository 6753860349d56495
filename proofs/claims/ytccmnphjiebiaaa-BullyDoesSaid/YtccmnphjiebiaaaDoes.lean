/- BullyDoes' own function returns true, whatever acts come. Condition: the list of acts lies whole in memory. -/
import Derived.Test.YtccmnphjiebiaaaBw
namespace Go.Proofs.Ytccmnphjiebiaaa
open Go.RowKit G
set_option linter.unusedVariables false
set_option linter.unusedSimpArgs false
attribute [local go_sem] upon_value upon_skip upon_enter runAt_run
set_option maxHeartbeats 16000000 in
set_option maxRecDepth 100000 in
theorem does_any (n0 self wait every : Int) (sa : Option Addr) (len cap : Nat) (ops : Nat → Opn) (w : World) (hg : OIn w sa len ops) :
    Calls Try.prog 3 #[.int .i64 n0, .int .i64 self, .int .i64 wait, .int .i64 every, .slice sa len cap] w fun e w' => e = .returned (.bool true) ∧ Below w.heap.size w w' := by
  have hml := hg.1
  unfold maxLen at hml
  have HG := Lib.hid hg
  clear hg
  rcases hnb : nodeB n0 self wait every with _ | _
  · have HN := Lib.hid hnb
    clear hnb
    go_enter Try.func3, Try.ntmps3
    go_wp2_with (first | (go_at_call 6; (with_reducible refine (born_no _ _ _ _ _ HN.out).mono ?_); rintro e w' ⟨rfl, rfl⟩) | (go_at_call 7; (with_reducible refine (rborn_no _ _ _ _ _ HN.out).mono ?_); rintro e w' ⟨rfl, rfl⟩))
    go_ret
    exact ⟨rfl, Below.refl _ _⟩
  have hn : (1 ≤ n0 ∧ n0 ≤ 8 ∧ 0 ≤ self ∧ self < n0 ∧ 1 ≤ wait ∧ wait ≤ 100 ∧ 1 ≤ every ∧ every ≤ 100) := by simpa only [nodeB, decide_eq_true_iff] using hnb
  obtain ⟨n, rfl⟩ := Int.eq_ofNat_of_zero_le (show 0 ≤ n0 by omega)
  obtain ⟨ev, rfl⟩ := Int.eq_ofNat_of_zero_le (show 0 ≤ every by omega)
  clear hn
  have HN := Lib.hid hnb
  clear hnb
  go_enter Try.func3, Try.ntmps3
  go_upto_region 5 with (first
    | (go_at_call 6; (with_reducible refine (born_yes n _ _ _ _ HN.out).mono ?_); rintro e w1 ⟨P, D, S, rfl, hp1, hb1, hf1⟩; have HB1 := Lib.hid (And.intro hp1 (And.intro hb1 hf1)); clear hp1 hb1 hf1)
    | (go_at_call 7; (with_reducible refine (rborn_yes n _ _ ev _ HN.out).mono ?_); rintro e w2 ⟨Q, R, rfl, hp2, hb2, hf2⟩; have HB2 := Lib.hid (And.intro hp2 (And.intro hb2 hf2)); clear hp2 hb2 hf2))
  have hBW : BW w w2 P D S (.slice none 0 0) Q R (.slice none 0 0) n (PN.new n self wait ev) (RN.new n self wait ev) :=
    ⟨HB1.out.1.kept (Kept.of_below (F := []) HB2.out.2.1) (fun _ _ hh => (by cases hh)), HB2.out.1, below_of HB1.out.2.1 HB2.out.2.1, HB1.out.2.2, fun c hc => Nat.le_trans HB1.out.2.1.size (HB2.out.2.2 c hc), fun c hc hm => by
      have := HB1.out.1.lts c hc
      have := HB2.out.2.2 c hm
      omega⟩
  have hBo : Bo 0 n (PN.new n self wait ev) (RN.new n self wait ev) := Bo.new n self wait ev HN.out
  clear HB1 HB2 HN
  go_wp2
  go_loopw [15] (fun i wr => ∃ k : Nat, k ≤ len ∧ k ≤ 200 ∧ i = .int .i64 k ∧ ∃ v u s r, BW w wr P D S v Q R u n s r ∧ Bo k n s r) (fun i _ => 200 - (intOf i).toNat)
  case atStart => exact ⟨0, Nat.zero_le _, Nat.zero_le _, rfl, _, _, _, _, hBW, hBo⟩
  case round =>
    obtain ⟨k, hk, hk2, rfl, v, u, s, r, hp, hq⟩ := hrel
    clear hBW hBo
    by_cases hlt : k < len
    · by_cases h200 : k < 200
      · obtain ⟨b0, o0, rfl, hz⟩ := HG.out.at hlt
        obtain ⟨z0, z1, z2, z3, z4, z5, z6⟩ := hz _ hp.b
        have hd200 : decide ((k : Int) < 200) = true := by simp; omega
        have hl1 : (k : Int) < (len : Int) := by omega
        have HP0 := Lib.hid hp
        have HQ := Lib.hid hq
        clear hz hp hq
        generalize ops k = op at z0 z1 z2 z3 z4 z5 z6
        obtain ⟨K, ⟨yk, yf, yt, ym⟩, T, O⟩ := op
        simp only at z0 z1 z2 z3 z4 z5 z6
        go_upto_region 9 with (fail)
        have HP := Lib.hid (HP0.out.below (below_new wr (.cells #[.int .i64 K, .int .i64 yk, .int .i64 yf, .int .i64 yt, .int .i64 ym, .int .i64 T, .bool O] 33)))
        have HBX := Lib.hid (And.intro (Row.new wr #[.int .i64 K, .int .i64 yk, .int .i64 yf, .int .i64 yt, .int .i64 ym, .int .i64 T, .bool O] 33) (And.intro (show wr.heap.size ∉ fp P D S v from fun hm => absurd (HP0.out.p.lts _ hm) (Nat.lt_irrefl _)) (show wr.heap.size ∉ rfp Q R u from fun hm => absurd (HP0.out.r.lts _ hm) (Nat.lt_irrefl _))))
        generalize wr.alloc (.cells #[.int .i64 K, .int .i64 yk, .int .i64 yf, .int .i64 yt, .int .i64 ym, .int .i64 T, .bool O] 33) = wc at HP HBX ⊢
        generalize wr.heap.size = B at HBX ⊢
        have x0 : wc.cell? ⟨B, 0, none⟩ = some (.int .i64 K) := HBX.out.1.cell 0 _ rfl
        have x1 : wc.cell? ⟨B, 1, none⟩ = some (.int .i64 yk) := HBX.out.1.cell 1 _ rfl
        have x2 : wc.cell? ⟨B, 2, none⟩ = some (.int .i64 yf) := HBX.out.1.cell 2 _ rfl
        have x3 : wc.cell? ⟨B, 3, none⟩ = some (.int .i64 yt) := HBX.out.1.cell 3 _ rfl
        have x4 : wc.cell? ⟨B, 4, none⟩ = some (.int .i64 ym) := HBX.out.1.cell 4 _ rfl
        have x5 : wc.cell? ⟨B, 5, none⟩ = some (.int .i64 T) := HBX.out.1.cell 5 _ rfl
        have x6 : wc.cell? ⟨B, 6, none⟩ = some (.bool O) := HBX.out.1.cell 6 _ rfl
        clear z0 z1 z2 z3 z4 z5 z6 HP0
        by_cases k0 : K = 0
        · subst k0
          go_upto_region 24 with (first
            | (go_at_call 8; (with_reducible refine (HP.out.ptick HQ.out.q (by omega)).mono ?_); rintro e' w3 ⟨rfl, u3, h3⟩; have H3 := Lib.hid h3; clear h3)
            | (go_at_call 9; (with_reducible refine (H3.out.rtick HQ.out (by omega)).mono ?_); rintro e' w9 ⟨rfl, u9, hp2⟩; clear H3))
          have HP2 := Lib.hid hp2
          have QQ := Lib.hid (show Bo (k + 1) n (s.tick n) (r.tick n (tickL s.x.self s.limit s.xs)) from HQ.out.tick (by omega))
          clear hp2 HP HQ x0 x1 x2 x3 x4 x5 x6 HBX
          generalize s.tick n = s2 at HP2 QQ
          generalize r.tick n (tickL s.x.self s.limit s.xs) = r2 at HP2 QQ
          obtain ⟨ro, hro⟩ : ∃ z, s2.x.role = z := ⟨_, rfl⟩
          obtain ⟨ld, hld⟩ : ∃ z, s2.x.lead = z := ⟨_, rfl⟩
          obtain ⟨tm, htm⟩ : ∃ z, s2.x.term = z := ⟨_, rfl⟩
          obtain ⟨wa, wb, hwt⟩ : ∃ a b, s2.x.wants = (a, b) := ⟨_, _, rfl⟩
          have y3 : w9.cell? ⟨Q, 3, none⟩ = some (.int .i64 ro) := by rw [← hro, QQ.out.x.role]; exact HP2.out.r.nd.r.cell 3 _ rfl
          have y4 : w9.cell? ⟨Q, 4, none⟩ = some (.int .i64 ld) := by rw [← hld, QQ.out.x.lead]; exact HP2.out.r.nd.r.cell 4 _ rfl
          have y5 : w9.cell? ⟨Q, 5, none⟩ = some (.int .i64 tm) := by rw [← htm, QQ.out.x.term]; exact HP2.out.r.nd.r.cell 5 _ rfl
          have HRO := Lib.hid hro
          have HLD := Lib.hid hld
          have HTM := Lib.hid htm
          have HWT := Lib.hid hwt
          clear hro hld htm hwt
          go_wp2_with (first
            | (go_at_call 21; (with_reducible refine (HP2.out.pwants QQ.out.q _ _ HWT.out).mono ?_); rintro e' w10 ⟨rfl, rfl⟩)
            | (go_at_call 22; (with_reducible refine (HP2.out.rwants QQ.out _ _ HWT.out).mono ?_); rintro e' w11 ⟨rfl, rfl⟩)
            | (go_at_call 23; (with_reducible refine (HP2.out.pstate _ _ _ HRO.out HLD.out HTM.out).mono ?_); rintro e' w12 ⟨rfl, rfl⟩))
          go_roundw
          case rel => exact ⟨k + 1, by omega, by omega, by go_num, _, _, s2, r2, HP2.out.drewN 1, QQ.out⟩
          case measure => simp [intOf]; omega
        by_cases k1 : K = 1
        · subst k1
          obtain ⟨ce, hce⟩ : ∃ z, checkE s.x.n s.x.self ⟨yk, yf, yt, ym⟩ = z := ⟨_, rfl⟩
          have HCE := Lib.hid hce
          clear hce
          go_upto_region 16 with (fail)
          refine region_gen (D1 w P D S Q R n s (s.take ⟨yk, yf, yt, ym⟩) r (r.take n ⟨yk, yf, yt, ym⟩) 4 8 B #[.int .i64 1, .int .i64 yk, .int .i64 yf, .int .i64 yt, .int .i64 ym, .int .i64 T, .bool O]) (by kernel_rfl) (by kernel_rfl) (D1.start HP.out HBX.out.1 HBX.out.2.1 HBX.out.2.2) ?_
          repeat
            (refine step_gen (by decide) (by rfl) (fun K hK => ?_)
             go_simp
             first
               | (with_reducible apply H1.one
                  · intro σ wv hk hd hv
                    have z1 : wv.cell? ⟨B, 1, none⟩ = some (.int .i64 yk) := hv.b.cell 1 _ rfl
                    have z2 : wv.cell? ⟨B, 2, none⟩ = some (.int .i64 yf) := hv.b.cell 2 _ rfl
                    have z3 : wv.cell? ⟨B, 3, none⟩ = some (.int .i64 yt) := hv.b.cell 3 _ rfl
                    have z4 : wv.cell? ⟨B, 4, none⟩ = some (.int .i64 ym) := hv.b.cell 4 _ rfl
                    have z5 : wv.cell? ⟨B, 5, none⟩ = some (.int .i64 T) := hv.b.cell 5 _ rfl
                    have z6 : wv.cell? ⟨B, 6, none⟩ = some (.bool O) := hv.b.cell 6 _ rfl
                    have Hv := Lib.hid hv
                    clear hv
                    go_simp
                    (first
                        | (with_reducible refine ⟨rfl, ?_⟩; exact D1.pure Hv.out (by decide) (by decide))
                        | (refine (word_any yk yf yt ym _).mono ?_
                           rintro e2 w2 ⟨rfl, hb2⟩
                           exact ⟨_, rfl, rfl, D1.below Hv.out hb2 (by decide) (by decide)⟩)
                        | (obtain ⟨v1, hp1, hnext⟩ := Hv.out.stepP hk (by decide)
                           refine (take_c hp1 HQ.out.q (by omega) yk yf yt ym _ HCE.out).mono ?_
                           rintro e2 w2 ⟨rfl, u2, hp2, st2⟩
                           exact ⟨_, rfl, rfl, hnext _ _ _ hp2 st2⟩)
                        | (obtain ⟨v1, hp1, hnext⟩ := Hv.out.stepR hk (by decide)
                           refine (rtake_c hp1 HQ.out (by omega) yk yf yt ym _ HCE.out).mono ?_
                           rintro e2 w2 ⟨rfl, u2, hp2, st2⟩
                           exact ⟨_, rfl, rfl, hnext _ _ _ hp2 st2⟩))
                  refine hK _ _ _ ?_
                  clear hK K))
          refine nil_gen ?_
          intro σ w9 hall ht hv
          obtain ⟨v9, u9, hp2, -, -⟩ := hv.e
          rw [hall 4 (by decide), hall 8 (by decide), if_pos rfl, if_pos rfl] at hp2
          clear hv hall ht σ
          go_upto_region 24 with (fail)
          have HP2 := Lib.hid hp2
          have QQ := Lib.hid (show Bo (k + 1) n (s.take ⟨yk, yf, yt, ym⟩) (r.take n ⟨yk, yf, yt, ym⟩) from HQ.out.take _)
          clear hp2 HP HQ x0 x1 x2 x3 x4 x5 x6 HBX
          generalize s.take ⟨yk, yf, yt, ym⟩ = s2 at HP2 QQ
          generalize r.take n ⟨yk, yf, yt, ym⟩ = r2 at HP2 QQ
          obtain ⟨ro, hro⟩ : ∃ z, s2.x.role = z := ⟨_, rfl⟩
          obtain ⟨ld, hld⟩ : ∃ z, s2.x.lead = z := ⟨_, rfl⟩
          obtain ⟨tm, htm⟩ : ∃ z, s2.x.term = z := ⟨_, rfl⟩
          obtain ⟨wa, wb, hwt⟩ : ∃ a b, s2.x.wants = (a, b) := ⟨_, _, rfl⟩
          have y3 : w9.cell? ⟨Q, 3, none⟩ = some (.int .i64 ro) := by rw [← hro, QQ.out.x.role]; exact HP2.out.r.nd.r.cell 3 _ rfl
          have y4 : w9.cell? ⟨Q, 4, none⟩ = some (.int .i64 ld) := by rw [← hld, QQ.out.x.lead]; exact HP2.out.r.nd.r.cell 4 _ rfl
          have y5 : w9.cell? ⟨Q, 5, none⟩ = some (.int .i64 tm) := by rw [← htm, QQ.out.x.term]; exact HP2.out.r.nd.r.cell 5 _ rfl
          have HRO := Lib.hid hro
          have HLD := Lib.hid hld
          have HTM := Lib.hid htm
          have HWT := Lib.hid hwt
          clear hro hld htm hwt
          go_wp2_with (first
            | (go_at_call 21; (with_reducible refine (HP2.out.pwants QQ.out.q _ _ HWT.out).mono ?_); rintro e' w10 ⟨rfl, rfl⟩)
            | (go_at_call 22; (with_reducible refine (HP2.out.rwants QQ.out _ _ HWT.out).mono ?_); rintro e' w11 ⟨rfl, rfl⟩)
            | (go_at_call 23; (with_reducible refine (HP2.out.pstate _ _ _ HRO.out HLD.out HTM.out).mono ?_); rintro e' w12 ⟨rfl, rfl⟩))
          go_roundw
          case rel => exact ⟨k + 1, by omega, by omega, by go_num, _, _, s2, r2, HP2.out.drewN 1, QQ.out⟩
          case measure => simp [intOf]; omega
        by_cases k2 : K = 2
        · subst k2
          have HLEN := Lib.hid (show s.x.ws.length ≤ 1048500 by have := HQ.out.q.bd.wl; omega)
          have HLEN2 := Lib.hid (show s.x.ws.length ≤ 1048576 by have := HLEN.out; omega)
          have HWS := Lib.hid (show r.x.ws = s.x.ws from HQ.out.x.ws.symm)
          go_upto_region 24 with (first
            | (go_at_call 15; (with_reducible refine (HP.out.pout).mono ?_); rintro e' w3 ⟨rfl, h3, hw3, hl3⟩; have H3 := Lib.hid (And.intro h3 (And.intro hw3 hl3)); clear h3 hw3 hl3)
            | (go_at_call 14; (with_reducible refine (H3.out.1.from H3.out.2.1 H3.out.2.2 HLEN.out).mono ?_); rintro e' w4 ⟨z4, rfl, h4, hz4, hl4, hn4⟩; have H4 := Lib.hid (And.intro h4 (And.intro hz4 (And.intro hl4 hn4))); clear h4 hz4 hl4 hn4)
            | (go_at_call 16; (with_reducible refine (H4.out.1.rout H4.out.2.1 H4.out.2.2.1 H4.out.2.2.2).mono ?_); rintro e' w5 ⟨rfl, h5, hu5, hz5⟩; have H5 := Lib.hid (And.intro h5 (And.intro hu5 hz5)); clear h5 hu5 hz5)
            | (go_at_call 13; (with_reducible refine (same_any H5.out.2.2 (HWS.out ▸ H5.out.2.1) HLEN2.out).mono ?_); rintro e' w6 ⟨rfl, m6, rfl⟩))
          have hp2 := H5.out.1.drewN m6
          clear H3 H4 H5 HLEN HLEN2 HWS
          generalize w5.drewN m6 = w9 at hp2 ⊢
          have HP2 := Lib.hid hp2
          have QQ := Lib.hid (show Bo (k + 1) n (s.out) (r.out) from HQ.out.out)
          clear hp2 HP HQ x0 x1 x2 x3 x4 x5 x6 HBX
          generalize s.out = s2 at HP2 QQ
          generalize r.out = r2 at HP2 QQ
          obtain ⟨ro, hro⟩ : ∃ z, s2.x.role = z := ⟨_, rfl⟩
          obtain ⟨ld, hld⟩ : ∃ z, s2.x.lead = z := ⟨_, rfl⟩
          obtain ⟨tm, htm⟩ : ∃ z, s2.x.term = z := ⟨_, rfl⟩
          obtain ⟨wa, wb, hwt⟩ : ∃ a b, s2.x.wants = (a, b) := ⟨_, _, rfl⟩
          have y3 : w9.cell? ⟨Q, 3, none⟩ = some (.int .i64 ro) := by rw [← hro, QQ.out.x.role]; exact HP2.out.r.nd.r.cell 3 _ rfl
          have y4 : w9.cell? ⟨Q, 4, none⟩ = some (.int .i64 ld) := by rw [← hld, QQ.out.x.lead]; exact HP2.out.r.nd.r.cell 4 _ rfl
          have y5 : w9.cell? ⟨Q, 5, none⟩ = some (.int .i64 tm) := by rw [← htm, QQ.out.x.term]; exact HP2.out.r.nd.r.cell 5 _ rfl
          have HRO := Lib.hid hro
          have HLD := Lib.hid hld
          have HTM := Lib.hid htm
          have HWT := Lib.hid hwt
          clear hro hld htm hwt
          go_wp2_with (first
            | (go_at_call 21; (with_reducible refine (HP2.out.pwants QQ.out.q _ _ HWT.out).mono ?_); rintro e' w10 ⟨rfl, rfl⟩)
            | (go_at_call 22; (with_reducible refine (HP2.out.rwants QQ.out _ _ HWT.out).mono ?_); rintro e' w11 ⟨rfl, rfl⟩)
            | (go_at_call 23; (with_reducible refine (HP2.out.pstate _ _ _ HRO.out HLD.out HTM.out).mono ?_); rintro e' w12 ⟨rfl, rfl⟩))
          go_roundw
          case rel => exact ⟨k + 1, by omega, by omega, by go_num, _, _, s2, r2, HP2.out.drewN 1, QQ.out⟩
          case measure => simp [intOf]; omega
        by_cases k4 : K = 4
        · subst k4
          go_upto_region 24 with (first
            | (go_at_call 17; (with_reducible refine (HP.out.poverB T HBX.out.1 HBX.out.2.1).mono ?_); rintro e' w3 ⟨rfl, u3, h3, hr3⟩; have x5' : w3.cell? ⟨B, 5, none⟩ = some (.int .i64 T) := hr3.cell 5 _ rfl; have H3 := Lib.hid h3; clear h3 hr3)
            | (go_at_call 18; (with_reducible refine (H3.out.rover T).mono ?_); rintro e' w9 ⟨rfl, u9, hp2⟩; clear H3 x5'))
          have HP2 := Lib.hid hp2
          have QQ := Lib.hid (show Bo (k + 1) n (s.over T) (r.over T) from HQ.out.over T)
          clear hp2 HP HQ x0 x1 x2 x3 x4 x5 x6 HBX
          generalize s.over T = s2 at HP2 QQ
          generalize r.over T = r2 at HP2 QQ
          obtain ⟨ro, hro⟩ : ∃ z, s2.x.role = z := ⟨_, rfl⟩
          obtain ⟨ld, hld⟩ : ∃ z, s2.x.lead = z := ⟨_, rfl⟩
          obtain ⟨tm, htm⟩ : ∃ z, s2.x.term = z := ⟨_, rfl⟩
          obtain ⟨wa, wb, hwt⟩ : ∃ a b, s2.x.wants = (a, b) := ⟨_, _, rfl⟩
          have y3 : w9.cell? ⟨Q, 3, none⟩ = some (.int .i64 ro) := by rw [← hro, QQ.out.x.role]; exact HP2.out.r.nd.r.cell 3 _ rfl
          have y4 : w9.cell? ⟨Q, 4, none⟩ = some (.int .i64 ld) := by rw [← hld, QQ.out.x.lead]; exact HP2.out.r.nd.r.cell 4 _ rfl
          have y5 : w9.cell? ⟨Q, 5, none⟩ = some (.int .i64 tm) := by rw [← htm, QQ.out.x.term]; exact HP2.out.r.nd.r.cell 5 _ rfl
          have HRO := Lib.hid hro
          have HLD := Lib.hid hld
          have HTM := Lib.hid htm
          have HWT := Lib.hid hwt
          clear hro hld htm hwt
          go_wp2_with (first
            | (go_at_call 21; (with_reducible refine (HP2.out.pwants QQ.out.q _ _ HWT.out).mono ?_); rintro e' w10 ⟨rfl, rfl⟩)
            | (go_at_call 22; (with_reducible refine (HP2.out.rwants QQ.out _ _ HWT.out).mono ?_); rintro e' w11 ⟨rfl, rfl⟩)
            | (go_at_call 23; (with_reducible refine (HP2.out.pstate _ _ _ HRO.out HLD.out HTM.out).mono ?_); rintro e' w12 ⟨rfl, rfl⟩))
          go_roundw
          case rel => exact ⟨k + 1, by omega, by omega, by go_num, _, _, s2, r2, HP2.out.drewN 1, QQ.out⟩
          case measure => simp [intOf]; omega
        have q0 : (K == 0) = false := by simp [k0]
        have q1 : (K == 1) = false := by simp [k1]
        have q2 : (K == 2) = false := by simp [k2]
        have q4 : (K == 4) = false := by simp [k4]
        obtain ⟨ce, hce⟩ : ∃ z, s.x.claimE T = z := ⟨_, rfl⟩
        have HCE := Lib.hid hce
        clear hce
        go_upto_region 10 with (fail)
        refine region_gen (D1 w P D S Q R n s (s.claim T O n) r (r.claim T O n) 5 11 B #[.int .i64 K, .int .i64 yk, .int .i64 yf, .int .i64 yt, .int .i64 ym, .int .i64 T, .bool O]) (by kernel_rfl) (by kernel_rfl) (D1.start HP.out HBX.out.1 HBX.out.2.1 HBX.out.2.2) ?_
        repeat
          (refine step_gen (by decide) (by rfl) (fun K hK => ?_)
           go_simp
           first
             | (with_reducible apply H1.one
                · intro σ wv hk hd hv
                  have z1 : wv.cell? ⟨B, 1, none⟩ = some (.int .i64 yk) := hv.b.cell 1 _ rfl
                  have z2 : wv.cell? ⟨B, 2, none⟩ = some (.int .i64 yf) := hv.b.cell 2 _ rfl
                  have z3 : wv.cell? ⟨B, 3, none⟩ = some (.int .i64 yt) := hv.b.cell 3 _ rfl
                  have z4 : wv.cell? ⟨B, 4, none⟩ = some (.int .i64 ym) := hv.b.cell 4 _ rfl
                  have z5 : wv.cell? ⟨B, 5, none⟩ = some (.int .i64 T) := hv.b.cell 5 _ rfl
                  have z6 : wv.cell? ⟨B, 6, none⟩ = some (.bool O) := hv.b.cell 6 _ rfl
                  have Hv := Lib.hid hv
                  clear hv
                  go_simp
                  (first
                      | (with_reducible refine ⟨rfl, ?_⟩; exact D1.pure Hv.out (by decide) (by decide))
                      | (obtain ⟨v1, hp1, hnext⟩ := Hv.out.stepP hk (by decide)
                         refine (claim_c hp1 HQ.out.q (by omega) T O _ HCE.out).mono ?_
                         rintro e2 w2 ⟨rfl, u2, hp2, st2⟩
                         exact ⟨_, rfl, rfl, hnext _ _ _ hp2 st2⟩)
                      | (obtain ⟨v1, hp1, hnext⟩ := Hv.out.stepR hk (by decide)
                         refine (rclaim_c hp1 HQ.out (by omega) T O _ HCE.out).mono ?_
                         rintro e2 w2 ⟨rfl, u2, hp2, st2⟩
                         exact ⟨_, rfl, rfl, hnext _ _ _ hp2 st2⟩))
                refine hK _ _ _ ?_
                clear hK K))
        refine nil_gen ?_
        intro σ w9 hall ht hv
        obtain ⟨v9, u9, hp2, -, -⟩ := hv.e
        rw [hall 5 (by decide), hall 11 (by decide), if_pos rfl, if_pos rfl] at hp2
        clear hv hall ht σ
        go_upto_region 24 with (fail)
        have HP2 := Lib.hid hp2
        have QQ := Lib.hid (show Bo (k + 1) n (s.claim T O n) (r.claim T O n) from HQ.out.claim T O)
        clear hp2 HP HQ x0 x1 x2 x3 x4 x5 x6 HBX
        generalize s.claim T O n = s2 at HP2 QQ
        generalize r.claim T O n = r2 at HP2 QQ
        obtain ⟨ro, hro⟩ : ∃ z, s2.x.role = z := ⟨_, rfl⟩
        obtain ⟨ld, hld⟩ : ∃ z, s2.x.lead = z := ⟨_, rfl⟩
        obtain ⟨tm, htm⟩ : ∃ z, s2.x.term = z := ⟨_, rfl⟩
        obtain ⟨wa, wb, hwt⟩ : ∃ a b, s2.x.wants = (a, b) := ⟨_, _, rfl⟩
        have y3 : w9.cell? ⟨Q, 3, none⟩ = some (.int .i64 ro) := by rw [← hro, QQ.out.x.role]; exact HP2.out.r.nd.r.cell 3 _ rfl
        have y4 : w9.cell? ⟨Q, 4, none⟩ = some (.int .i64 ld) := by rw [← hld, QQ.out.x.lead]; exact HP2.out.r.nd.r.cell 4 _ rfl
        have y5 : w9.cell? ⟨Q, 5, none⟩ = some (.int .i64 tm) := by rw [← htm, QQ.out.x.term]; exact HP2.out.r.nd.r.cell 5 _ rfl
        have HRO := Lib.hid hro
        have HLD := Lib.hid hld
        have HTM := Lib.hid htm
        have HWT := Lib.hid hwt
        clear hro hld htm hwt
        go_wp2_with (first
          | (go_at_call 21; (with_reducible refine (HP2.out.pwants QQ.out.q _ _ HWT.out).mono ?_); rintro e' w10 ⟨rfl, rfl⟩)
          | (go_at_call 22; (with_reducible refine (HP2.out.rwants QQ.out _ _ HWT.out).mono ?_); rintro e' w11 ⟨rfl, rfl⟩)
          | (go_at_call 23; (with_reducible refine (HP2.out.pstate _ _ _ HRO.out HLD.out HTM.out).mono ?_); rintro e' w12 ⟨rfl, rfl⟩))
        go_roundw
        case rel => exact ⟨k + 1, by omega, by omega, by go_num, _, _, s2, r2, HP2.out.drewN 1, QQ.out⟩
        case measure => simp [intOf]; omega
      · obtain rfl : k = 200 := by omega
        have hd200 : decide (((200 : Nat) : Int) < 200) = false := by decide
        have HP := Lib.hid hp
        have HLEN := Lib.hid (show s.x.ws.length ≤ 1048500 by have := hq.q.bd.wl; omega)
        have HLEN2 := Lib.hid (show s.x.ws.length ≤ 1048576 by have := HLEN.out; omega)
        have HWS := Lib.hid (show r.x.ws = s.x.ws from hq.x.ws.symm)
        clear hp hq
        go_wp2_with (first
          | (go_at_call 15; (with_reducible refine (HP.out.pout).mono ?_); rintro e' w3 ⟨rfl, h3, hw3, hl3⟩; have H3 := Lib.hid (And.intro h3 (And.intro hw3 hl3)); clear h3 hw3 hl3)
          | (go_at_call 14; (with_reducible refine (H3.out.1.from H3.out.2.1 H3.out.2.2 HLEN.out).mono ?_); rintro e' w4 ⟨z4, rfl, h4, hz4, hl4, hn4⟩; have H4 := Lib.hid (And.intro h4 (And.intro hz4 (And.intro hl4 hn4))); clear h4 hz4 hl4 hn4)
          | (go_at_call 16; (with_reducible refine (H4.out.1.rout H4.out.2.1 H4.out.2.2.1 H4.out.2.2.2).mono ?_); rintro e' w5 ⟨rfl, h5, hu5, hz5⟩; have H5 := Lib.hid (And.intro h5 (And.intro hu5 hz5)); clear h5 hu5 hz5)
          | (go_at_call 13; (with_reducible refine (same_any H5.out.2.2 (HWS.out ▸ H5.out.2.1) HLEN2.out).mono ?_); rintro e' w6 ⟨rfl, m6, rfl⟩))
        go_ret
        exact ⟨rfl, (H5.out.1.drewN m6).b⟩
    · obtain rfl : k = len := by omega
      have HP := Lib.hid hp
      have HLEN := Lib.hid (show s.x.ws.length ≤ 1048500 by have := hq.q.bd.wl; omega)
      have HLEN2 := Lib.hid (show s.x.ws.length ≤ 1048576 by have := HLEN.out; omega)
      have HWS := Lib.hid (show r.x.ws = s.x.ws from hq.x.ws.symm)
      clear hp hq
      go_wp2_with (first
        | (go_at_call 15; (with_reducible refine (HP.out.pout).mono ?_); rintro e' w3 ⟨rfl, h3, hw3, hl3⟩; have H3 := Lib.hid (And.intro h3 (And.intro hw3 hl3)); clear h3 hw3 hl3)
        | (go_at_call 14; (with_reducible refine (H3.out.1.from H3.out.2.1 H3.out.2.2 HLEN.out).mono ?_); rintro e' w4 ⟨z4, rfl, h4, hz4, hl4, hn4⟩; have H4 := Lib.hid (And.intro h4 (And.intro hz4 (And.intro hl4 hn4))); clear h4 hz4 hl4 hn4)
        | (go_at_call 16; (with_reducible refine (H4.out.1.rout H4.out.2.1 H4.out.2.2.1 H4.out.2.2.2).mono ?_); rintro e' w5 ⟨rfl, h5, hu5, hz5⟩; have H5 := Lib.hid (And.intro h5 (And.intro hu5 hz5)); clear h5 hu5 hz5)
        | (go_at_call 13; (with_reducible refine (same_any H5.out.2.2 (HWS.out ▸ H5.out.2.1) HLEN2.out).mono ?_); rintro e' w6 ⟨rfl, m6, rfl⟩))
      go_ret
      exact ⟨rfl, (H5.out.1.drewN m6).b⟩
end Go.Proofs.Ytccmnphjiebiaaa
