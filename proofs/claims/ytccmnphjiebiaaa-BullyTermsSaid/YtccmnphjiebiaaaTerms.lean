/- BullyTerms' own function returns true, whatever acts come. Condition: the list of acts lies whole in memory. -/
import Derived.Test.YtccmnphjiebiaaaWorks
namespace Go.Proofs.Ytccmnphjiebiaaa
open Go.RowKit G
set_option linter.unusedVariables false
set_option linter.unusedSimpArgs false
theorem rem_nat (a : Int) (m : Nat) (hm : 0 < m) (hm' : m ≤ 100000) : ∃ r : Nat, wrap64 ((IntKind.u64.wrap a).tmod m) = (r : Int) ∧ r < m := by
  have h0 : 0 ≤ IntKind.u64.wrap a := by rw [IntKind.wrap_u64]; omega
  obtain ⟨u, hu⟩ := Int.eq_ofNat_of_zero_le h0
  rw [hu]
  refine ⟨u % m, ?_, Nat.mod_lt _ hm⟩
  have := Nat.mod_lt u hm
  have e : ((u : Int).tmod m) = ((u % m : Nat) : Int) := rfl
  rw [e]
  unfold wrap64; omega
theorem wants3 (x : Nd) (h : x.role = 3) : x.wants = (x.term + 1, true) := by simp [Nd.wants, h]
theorem wantsN (x : Nd) (h : x.role ≠ 3) : x.wants = (0, false) := by simp [Nd.wants, h]
theorem PN.take_term (s : PN) (y : Wd) : s.x.term ≤ (s.take y).x.term := by
  unfold PN.take
  split
  · exact Nd.take_term _ _
  · exact Int.le_refl _
theorem PN.take_self (s : PN) (y : Wd) : (s.take y).x.self = s.x.self := by
  unfold PN.take
  split
  · show (s.x.take y).self = _
    unfold Nd.take
    split
    · split
      · rfl
      · split
        · rw [Nd.ask_self]; rfl
        · rfl
    · split
      · split <;> rfl
      · split <;> rfl
  · rfl
theorem Nd.tick_self (x : Nd) (n : Nat) (b a : Bool) : (x.tick n b a).self = x.self := by
  unfold Nd.tick
  split
  · rfl
  split
  · rw [Nd.ask_self]
  split
  · rfl
  split
  · rw [Nd.ask_self]
  · rfl
set_option maxHeartbeats 8000000 in
set_option maxRecDepth 100000 in
theorem terms_any (a b : Int) (sa : Option Addr) (len cap : Nat) (ops : Nat → Opn) (w : World) (hg : OIn w sa len ops) :
    Calls Try.prog 4 #[.int .i64 a, .int .i64 b, .slice sa len cap] w fun e w' => e = .returned (.bool true) ∧ Below w.heap.size w w' := by
  have hml := hg.1
  unfold maxLen at hml
  have HG := Lib.hid hg
  clear hg
  go_enter Try.func4, Try.ntmps4
  go_upto_region 3 with (go_at_call 24; (with_reducible refine (works_any _).mono ?_); rintro e' w1 ⟨rfl, hb1⟩)
  go_cut [0] (fun v0 wc => (∃ n : Nat, v0 = .int .i64 n ∧ 1 ≤ n ∧ n ≤ 8) ∧ Below w.heap.size w wc)
  case first =>
    go_wp2_with fail
    go_meet
    case rel =>
      obtain ⟨r1, e1, l1⟩ := rem_nat a 8 (by omega) (by omega)
      simp only [show ((8 : Nat) : Int) = 8 from rfl] at e1
      exact ⟨⟨r1 + 1, by rw [e1]; congr 1; unfold wrap64; omega, by omega, by omega⟩, hb1⟩
  case rest =>
  clear hb1
  obtain ⟨⟨n, rfl, n1, n8⟩, hb1⟩ := hcut
  obtain ⟨r, er, hr⟩ := rem_nat b n (by omega) (by omega)
  have hun : IntKind.u64.wrap (n : Int) = n := by rw [IntKind.wrap_u64]; omega
  have hn0 : ¬ (n : Int) = 0 := by omega
  have HB0 := Lib.hid (show nodeB n r 2 3 = true by simp only [nodeB, decide_eq_true_iff]; omega)
  go_upto_region 7 with (go_at_call 6; (with_reducible refine (PW.born n r 2 3 _ HB0.out).mono ?_); rintro e' w2 ⟨P, D, S, rfl, h2⟩)
  have h2' := h2.base hb1
  have hq0 : PI 0 (16 * 0) n (PN.new n r 2 3) := PI.new n r 2 3 HB0.out
  clear h2 hb1 HB0
  go_wp2
  go_loopw [9, 10] (fun last i wr => ∃ k : Nat, k ≤ len ∧ k ≤ 200 ∧ i = .int .i64 k ∧ ∃ v s, last = .int .i64 s.x.term ∧ PW w wr P D S v s ∧ PI k (16 * k) n s ∧ s.x.self = r) (fun _ i _ => 200 - (intOf i).toNat)
  case atStart => exact ⟨0, Nat.zero_le _, Nat.zero_le _, rfl, _, _, rfl, h2', hq0, rfl⟩
  case round =>
    obtain ⟨k, hk, hk2, rfl, v, s, rfl, hp, hq, hself⟩ := hrel
    clear h2' hq0
    by_cases hlt : k < len
    · by_cases h200 : k < 200
      · obtain ⟨b0, o0, rfl, hz⟩ := HG.out.at hlt
        obtain ⟨z0, z1, z2, z3, z4, z5, z6⟩ := hz _ hp.b
        have hd200 : decide ((k : Int) < 200) = true := by simp; omega
        have hl1 : (k : Int) < (len : Int) := by omega
        have HP0 := Lib.hid hp
        clear hz hp
        generalize ops k = op at z0 z1 z2 z3 z4 z5 z6
        obtain ⟨K, ⟨yk, yf, yt, ym⟩, T, O⟩ := op
        simp only at z0 z1 z2 z3 z4 z5 z6
        obtain ⟨tm, htm⟩ : ∃ z, s.x.term = z := ⟨_, rfl⟩
        rw [htm]
        have HTM0 := Lib.hid htm
        have HQ := Lib.hid hq
        have HSE := Lib.hid hself
        clear htm hq hself
        go_upto_region 12 with (fail)
        have HP := Lib.hid (HP0.out.below (below_new wr (.cells #[.int .i64 K, .int .i64 yk, .int .i64 yf, .int .i64 yt, .int .i64 ym, .int .i64 T, .bool O] 33)))
        have hbx := Row.new wr #[.int .i64 K, .int .i64 yk, .int .i64 yf, .int .i64 yt, .int .i64 ym, .int .i64 T, .bool O] 33
        generalize wr.alloc (.cells #[.int .i64 K, .int .i64 yk, .int .i64 yf, .int .i64 yt, .int .i64 ym, .int .i64 T, .bool O] 33) = wc at HP hbx ⊢
        generalize wr.heap.size = B at hbx ⊢
        have x0 : wc.cell? ⟨B, 0, none⟩ = some (.int .i64 K) := hbx.cell 0 _ rfl
        have x1 : wc.cell? ⟨B, 1, none⟩ = some (.int .i64 yk) := hbx.cell 1 _ rfl
        have x2 : wc.cell? ⟨B, 2, none⟩ = some (.int .i64 yf) := hbx.cell 2 _ rfl
        have x3 : wc.cell? ⟨B, 3, none⟩ = some (.int .i64 yt) := hbx.cell 3 _ rfl
        have x4 : wc.cell? ⟨B, 4, none⟩ = some (.int .i64 ym) := hbx.cell 4 _ rfl
        have x5 : wc.cell? ⟨B, 5, none⟩ = some (.int .i64 T) := hbx.cell 5 _ rfl
        have x6 : wc.cell? ⟨B, 6, none⟩ = some (.bool O) := hbx.cell 6 _ rfl
        clear hbx z0 z1 z2 z3 z4 z5 z6 HP0
        by_cases k0 : K = 0
        · subst k0
          go_upto_region 22 with (go_at_call 8; (with_reducible refine (HP.out.tick HQ.out (by omega) (by omega)).mono ?_); rintro e' w3 ⟨rfl, u3, hp2⟩)
          have HP2 := Lib.hid hp2
          have QQ := Lib.hid (show PI (k + 1) (16 * (k + 1)) n (s.tick n) from HQ.out.tick.more (Nat.le_refl _) (by omega))
          have HSELF := Lib.hid (show (s.tick n).x.self = r from (Nd.tick_self ..).trans HSE.out)
          have HTM := Lib.hid (show tm ≤ (s.tick n).x.term from HTM0.out ▸ Int.le_of_eq (Nd.tick_term ..).symm)
          clear hp2 HP HQ HSE HTM0 x0 x1 x2 x3 x4 x5 x6
          generalize s.tick n = s2 at HP2 QQ HSELF HTM
          have hq := QQ.out
          obtain ⟨ro, hro⟩ : ∃ z, s2.x.role = z := ⟨_, rfl⟩
          obtain ⟨ld, hld⟩ : ∃ z, s2.x.lead = z := ⟨_, rfl⟩
          obtain ⟨tm2, htm2⟩ : ∃ z, s2.x.term = z := ⟨_, rfl⟩
          have h1 : ¬ tm2 < tm := by have := HTM.out; omega
          have h2 : ¬ ld < -1 := by have := hq.bd.l0; omega
          have h3 : ¬ (n : Int) ≤ ld := by have := hq.bd.l1; omega
          have h0 := hq.bd.t0
          have h9 := hq.bd.t1
          have h4 := hq.bd.ld
          rw [htm2] at h0 h9
          rw [hld, hro] at h4
          have HRO := Lib.hid hro
          have HLD := Lib.hid hld
          have HTM2 := Lib.hid htm2
          clear hq hro hld htm2
          by_cases c3 : ro = 3
          · subst c3
            have HW := Lib.hid (show s2.x.wants = (tm2 + 1, true) by rw [wants3 _ HRO.out, HTM2.out])
            have hle : ¬ tm2 + 1 ≤ tm2 := by omega
            clear h4
            go_wp2_with (first
              | (go_at_call 23; (with_reducible refine (HP2.out.state _ _ _ HRO.out HLD.out HTM2.out).mono ?_); rintro e' w8 ⟨rfl, rfl⟩)
              | (go_at_call 21; (with_reducible refine (HP2.out.drew.wants QQ.out _ _ HW.out).mono ?_); rintro e' w9 ⟨rfl, rfl⟩))
            go_roundw
            case rel => exact ⟨k + 1, by omega, by omega, by go_num, _, s2, by rw [HTM2.out], HP2.out.drew, QQ.out, HSELF.out⟩
            case measure => simp [intOf]; omega
          · have c3b : (ro == 3) = false := by simp [c3]
            have HW := Lib.hid (wantsN s2.x (by rw [HRO.out]; exact c3))
            by_cases c4 : ro = 4
            · subst c4
              obtain rfl : ld = (r : Int) := by rw [h4 rfl, HSELF.out]
              clear h4
              go_wp2_with (first
                | (go_at_call 23; (with_reducible refine (HP2.out.state _ _ _ HRO.out HLD.out HTM2.out).mono ?_); rintro e' w8 ⟨rfl, rfl⟩)
                | (go_at_call 21; (with_reducible refine (HP2.out.drew.wants QQ.out _ _ HW.out).mono ?_); rintro e' w9 ⟨rfl, rfl⟩))
              go_roundw
              case rel => exact ⟨k + 1, by omega, by omega, by go_num, _, s2, by rw [HTM2.out], HP2.out.drew, QQ.out, HSELF.out⟩
              case measure => simp [intOf]; omega
            · have c4b : (ro == 4) = false := by simp [c4]
              clear h4
              go_wp2_with (first
                | (go_at_call 23; (with_reducible refine (HP2.out.state _ _ _ HRO.out HLD.out HTM2.out).mono ?_); rintro e' w8 ⟨rfl, rfl⟩)
                | (go_at_call 21; (with_reducible refine (HP2.out.drew.wants QQ.out _ _ HW.out).mono ?_); rintro e' w9 ⟨rfl, rfl⟩))
              go_roundw
              case rel => exact ⟨k + 1, by omega, by omega, by go_num, _, s2, by rw [HTM2.out], HP2.out.drew, QQ.out, HSELF.out⟩
              case measure => simp [intOf]; omega
        by_cases k1 : K = 1
        · subst k1
          go_upto_region 22 with (first
            | (go_at_call 11; (with_reducible refine (word_any yk yf yt ym _).mono ?_); rintro e' w3 ⟨rfl, hb3⟩; have HP3 := Lib.hid (HP.out.below hb3); clear hb3)
            | (go_at_call 10; (with_reducible refine (HP3.out.take HQ.out (by omega) yk yf yt ym _ rfl).mono ?_); rintro e' w4 ⟨rfl, u4, hp2⟩; clear HP3))
          have HP2 := Lib.hid hp2
          have QQ := Lib.hid (show PI (k + 1) (16 * (k + 1)) n (s.take ⟨yk, yf, yt, ym⟩) from (HQ.out.take _).more (Nat.le_succ _) (by omega))
          have HSELF := Lib.hid (show (s.take ⟨yk, yf, yt, ym⟩).x.self = r from (PN.take_self ..).trans HSE.out)
          have HTM := Lib.hid (show tm ≤ (s.take ⟨yk, yf, yt, ym⟩).x.term from HTM0.out ▸ PN.take_term ..)
          clear hp2 HP HQ HSE HTM0 x0 x1 x2 x3 x4 x5 x6
          generalize s.take ⟨yk, yf, yt, ym⟩ = s2 at HP2 QQ HSELF HTM
          have hq := QQ.out
          obtain ⟨ro, hro⟩ : ∃ z, s2.x.role = z := ⟨_, rfl⟩
          obtain ⟨ld, hld⟩ : ∃ z, s2.x.lead = z := ⟨_, rfl⟩
          obtain ⟨tm2, htm2⟩ : ∃ z, s2.x.term = z := ⟨_, rfl⟩
          have h1 : ¬ tm2 < tm := by have := HTM.out; omega
          have h2 : ¬ ld < -1 := by have := hq.bd.l0; omega
          have h3 : ¬ (n : Int) ≤ ld := by have := hq.bd.l1; omega
          have h0 := hq.bd.t0
          have h9 := hq.bd.t1
          have h4 := hq.bd.ld
          rw [htm2] at h0 h9
          rw [hld, hro] at h4
          have HRO := Lib.hid hro
          have HLD := Lib.hid hld
          have HTM2 := Lib.hid htm2
          clear hq hro hld htm2
          by_cases c3 : ro = 3
          · subst c3
            have HW := Lib.hid (show s2.x.wants = (tm2 + 1, true) by rw [wants3 _ HRO.out, HTM2.out])
            have hle : ¬ tm2 + 1 ≤ tm2 := by omega
            clear h4
            go_wp2_with (first
              | (go_at_call 23; (with_reducible refine (HP2.out.state _ _ _ HRO.out HLD.out HTM2.out).mono ?_); rintro e' w8 ⟨rfl, rfl⟩)
              | (go_at_call 21; (with_reducible refine (HP2.out.drew.wants QQ.out _ _ HW.out).mono ?_); rintro e' w9 ⟨rfl, rfl⟩))
            go_roundw
            case rel => exact ⟨k + 1, by omega, by omega, by go_num, _, s2, by rw [HTM2.out], HP2.out.drew, QQ.out, HSELF.out⟩
            case measure => simp [intOf]; omega
          · have c3b : (ro == 3) = false := by simp [c3]
            have HW := Lib.hid (wantsN s2.x (by rw [HRO.out]; exact c3))
            by_cases c4 : ro = 4
            · subst c4
              obtain rfl : ld = (r : Int) := by rw [h4 rfl, HSELF.out]
              clear h4
              go_wp2_with (first
                | (go_at_call 23; (with_reducible refine (HP2.out.state _ _ _ HRO.out HLD.out HTM2.out).mono ?_); rintro e' w8 ⟨rfl, rfl⟩)
                | (go_at_call 21; (with_reducible refine (HP2.out.drew.wants QQ.out _ _ HW.out).mono ?_); rintro e' w9 ⟨rfl, rfl⟩))
              go_roundw
              case rel => exact ⟨k + 1, by omega, by omega, by go_num, _, s2, by rw [HTM2.out], HP2.out.drew, QQ.out, HSELF.out⟩
              case measure => simp [intOf]; omega
            · have c4b : (ro == 4) = false := by simp [c4]
              clear h4
              go_wp2_with (first
                | (go_at_call 23; (with_reducible refine (HP2.out.state _ _ _ HRO.out HLD.out HTM2.out).mono ?_); rintro e' w8 ⟨rfl, rfl⟩)
                | (go_at_call 21; (with_reducible refine (HP2.out.drew.wants QQ.out _ _ HW.out).mono ?_); rintro e' w9 ⟨rfl, rfl⟩))
              go_roundw
              case rel => exact ⟨k + 1, by omega, by omega, by go_num, _, s2, by rw [HTM2.out], HP2.out.drew, QQ.out, HSELF.out⟩
              case measure => simp [intOf]; omega
        by_cases k2 : K = 2
        · subst k2
          go_upto_region 22 with (go_at_call 15; (with_reducible refine (HP.out.out).mono ?_); rintro e' w3 ⟨rfl, hp2, -, -, -, -⟩)
          have HP2 := Lib.hid hp2
          have QQ := Lib.hid (show PI (k + 1) (16 * (k + 1)) n (s.out) from HQ.out.out.more (Nat.le_succ _) (by omega))
          have HSELF := Lib.hid (show (s.out).x.self = r from HSE.out)
          have HTM := Lib.hid (show tm ≤ (s.out).x.term from HTM0.out ▸ Int.le_refl _)
          clear hp2 HP HQ HSE HTM0 x0 x1 x2 x3 x4 x5 x6
          generalize s.out = s2 at HP2 QQ HSELF HTM
          have hq := QQ.out
          obtain ⟨ro, hro⟩ : ∃ z, s2.x.role = z := ⟨_, rfl⟩
          obtain ⟨ld, hld⟩ : ∃ z, s2.x.lead = z := ⟨_, rfl⟩
          obtain ⟨tm2, htm2⟩ : ∃ z, s2.x.term = z := ⟨_, rfl⟩
          have h1 : ¬ tm2 < tm := by have := HTM.out; omega
          have h2 : ¬ ld < -1 := by have := hq.bd.l0; omega
          have h3 : ¬ (n : Int) ≤ ld := by have := hq.bd.l1; omega
          have h0 := hq.bd.t0
          have h9 := hq.bd.t1
          have h4 := hq.bd.ld
          rw [htm2] at h0 h9
          rw [hld, hro] at h4
          have HRO := Lib.hid hro
          have HLD := Lib.hid hld
          have HTM2 := Lib.hid htm2
          clear hq hro hld htm2
          by_cases c3 : ro = 3
          · subst c3
            have HW := Lib.hid (show s2.x.wants = (tm2 + 1, true) by rw [wants3 _ HRO.out, HTM2.out])
            have hle : ¬ tm2 + 1 ≤ tm2 := by omega
            clear h4
            go_wp2_with (first
              | (go_at_call 23; (with_reducible refine (HP2.out.state _ _ _ HRO.out HLD.out HTM2.out).mono ?_); rintro e' w8 ⟨rfl, rfl⟩)
              | (go_at_call 21; (with_reducible refine (HP2.out.drew.wants QQ.out _ _ HW.out).mono ?_); rintro e' w9 ⟨rfl, rfl⟩))
            go_roundw
            case rel => exact ⟨k + 1, by omega, by omega, by go_num, _, s2, by rw [HTM2.out], HP2.out.drew, QQ.out, HSELF.out⟩
            case measure => simp [intOf]; omega
          · have c3b : (ro == 3) = false := by simp [c3]
            have HW := Lib.hid (wantsN s2.x (by rw [HRO.out]; exact c3))
            by_cases c4 : ro = 4
            · subst c4
              obtain rfl : ld = (r : Int) := by rw [h4 rfl, HSELF.out]
              clear h4
              go_wp2_with (first
                | (go_at_call 23; (with_reducible refine (HP2.out.state _ _ _ HRO.out HLD.out HTM2.out).mono ?_); rintro e' w8 ⟨rfl, rfl⟩)
                | (go_at_call 21; (with_reducible refine (HP2.out.drew.wants QQ.out _ _ HW.out).mono ?_); rintro e' w9 ⟨rfl, rfl⟩))
              go_roundw
              case rel => exact ⟨k + 1, by omega, by omega, by go_num, _, s2, by rw [HTM2.out], HP2.out.drew, QQ.out, HSELF.out⟩
              case measure => simp [intOf]; omega
            · have c4b : (ro == 4) = false := by simp [c4]
              clear h4
              go_wp2_with (first
                | (go_at_call 23; (with_reducible refine (HP2.out.state _ _ _ HRO.out HLD.out HTM2.out).mono ?_); rintro e' w8 ⟨rfl, rfl⟩)
                | (go_at_call 21; (with_reducible refine (HP2.out.drew.wants QQ.out _ _ HW.out).mono ?_); rintro e' w9 ⟨rfl, rfl⟩))
              go_roundw
              case rel => exact ⟨k + 1, by omega, by omega, by go_num, _, s2, by rw [HTM2.out], HP2.out.drew, QQ.out, HSELF.out⟩
              case measure => simp [intOf]; omega
        by_cases k4 : K = 4
        · subst k4
          go_upto_region 22 with (go_at_call 17; (with_reducible refine (HP.out.over T).mono ?_); rintro e' w3 ⟨rfl, u3, hp2⟩)
          have HP2 := Lib.hid hp2
          have QQ := Lib.hid (show PI (k + 1) (16 * (k + 1)) n (s.over T) from (HQ.out.over T).more (Nat.le_succ _) (by omega))
          have HSELF := Lib.hid (show (s.over T).x.self = r from (Nd.over_self ..).trans HSE.out)
          have HTM := Lib.hid (show tm ≤ (s.over T).x.term from HTM0.out ▸ Nd.over_term ..)
          clear hp2 HP HQ HSE HTM0 x0 x1 x2 x3 x4 x5 x6
          generalize s.over T = s2 at HP2 QQ HSELF HTM
          have hq := QQ.out
          obtain ⟨ro, hro⟩ : ∃ z, s2.x.role = z := ⟨_, rfl⟩
          obtain ⟨ld, hld⟩ : ∃ z, s2.x.lead = z := ⟨_, rfl⟩
          obtain ⟨tm2, htm2⟩ : ∃ z, s2.x.term = z := ⟨_, rfl⟩
          have h1 : ¬ tm2 < tm := by have := HTM.out; omega
          have h2 : ¬ ld < -1 := by have := hq.bd.l0; omega
          have h3 : ¬ (n : Int) ≤ ld := by have := hq.bd.l1; omega
          have h0 := hq.bd.t0
          have h9 := hq.bd.t1
          have h4 := hq.bd.ld
          rw [htm2] at h0 h9
          rw [hld, hro] at h4
          have HRO := Lib.hid hro
          have HLD := Lib.hid hld
          have HTM2 := Lib.hid htm2
          clear hq hro hld htm2
          by_cases c3 : ro = 3
          · subst c3
            have HW := Lib.hid (show s2.x.wants = (tm2 + 1, true) by rw [wants3 _ HRO.out, HTM2.out])
            have hle : ¬ tm2 + 1 ≤ tm2 := by omega
            clear h4
            go_wp2_with (first
              | (go_at_call 23; (with_reducible refine (HP2.out.state _ _ _ HRO.out HLD.out HTM2.out).mono ?_); rintro e' w8 ⟨rfl, rfl⟩)
              | (go_at_call 21; (with_reducible refine (HP2.out.drew.wants QQ.out _ _ HW.out).mono ?_); rintro e' w9 ⟨rfl, rfl⟩))
            go_roundw
            case rel => exact ⟨k + 1, by omega, by omega, by go_num, _, s2, by rw [HTM2.out], HP2.out.drew, QQ.out, HSELF.out⟩
            case measure => simp [intOf]; omega
          · have c3b : (ro == 3) = false := by simp [c3]
            have HW := Lib.hid (wantsN s2.x (by rw [HRO.out]; exact c3))
            by_cases c4 : ro = 4
            · subst c4
              obtain rfl : ld = (r : Int) := by rw [h4 rfl, HSELF.out]
              clear h4
              go_wp2_with (first
                | (go_at_call 23; (with_reducible refine (HP2.out.state _ _ _ HRO.out HLD.out HTM2.out).mono ?_); rintro e' w8 ⟨rfl, rfl⟩)
                | (go_at_call 21; (with_reducible refine (HP2.out.drew.wants QQ.out _ _ HW.out).mono ?_); rintro e' w9 ⟨rfl, rfl⟩))
              go_roundw
              case rel => exact ⟨k + 1, by omega, by omega, by go_num, _, s2, by rw [HTM2.out], HP2.out.drew, QQ.out, HSELF.out⟩
              case measure => simp [intOf]; omega
            · have c4b : (ro == 4) = false := by simp [c4]
              clear h4
              go_wp2_with (first
                | (go_at_call 23; (with_reducible refine (HP2.out.state _ _ _ HRO.out HLD.out HTM2.out).mono ?_); rintro e' w8 ⟨rfl, rfl⟩)
                | (go_at_call 21; (with_reducible refine (HP2.out.drew.wants QQ.out _ _ HW.out).mono ?_); rintro e' w9 ⟨rfl, rfl⟩))
              go_roundw
              case rel => exact ⟨k + 1, by omega, by omega, by go_num, _, s2, by rw [HTM2.out], HP2.out.drew, QQ.out, HSELF.out⟩
              case measure => simp [intOf]; omega
        have q0 : (K == 0) = false := by simp [k0]
        have q1 : (K == 1) = false := by simp [k1]
        have q2 : (K == 2) = false := by simp [k2]
        have q4 : (K == 4) = false := by simp [k4]
        go_upto_region 22 with (go_at_call 19; (with_reducible refine (HP.out.claim HQ.out (by omega) T O _ rfl).mono ?_); rintro e' w3 ⟨rfl, u3, hp2⟩)
        have HP2 := Lib.hid hp2
        have QQ := Lib.hid (show PI (k + 1) (16 * (k + 1)) n (s.claim T O n) from (HQ.out.claim T O).more (Nat.le_succ _) (by omega))
        have HSELF := Lib.hid (show (s.claim T O n).x.self = r from (Nd.claim_self ..).trans HSE.out)
        have HTM := Lib.hid (show tm ≤ (s.claim T O n).x.term from HTM0.out ▸ Nd.claim_term ..)
        clear hp2 HP HQ HSE HTM0 x0 x1 x2 x3 x4 x5 x6
        generalize s.claim T O n = s2 at HP2 QQ HSELF HTM
        have hq := QQ.out
        obtain ⟨ro, hro⟩ : ∃ z, s2.x.role = z := ⟨_, rfl⟩
        obtain ⟨ld, hld⟩ : ∃ z, s2.x.lead = z := ⟨_, rfl⟩
        obtain ⟨tm2, htm2⟩ : ∃ z, s2.x.term = z := ⟨_, rfl⟩
        have h1 : ¬ tm2 < tm := by have := HTM.out; omega
        have h2 : ¬ ld < -1 := by have := hq.bd.l0; omega
        have h3 : ¬ (n : Int) ≤ ld := by have := hq.bd.l1; omega
        have h0 := hq.bd.t0
        have h9 := hq.bd.t1
        have h4 := hq.bd.ld
        rw [htm2] at h0 h9
        rw [hld, hro] at h4
        have HRO := Lib.hid hro
        have HLD := Lib.hid hld
        have HTM2 := Lib.hid htm2
        clear hq hro hld htm2
        by_cases c3 : ro = 3
        · subst c3
          have HW := Lib.hid (show s2.x.wants = (tm2 + 1, true) by rw [wants3 _ HRO.out, HTM2.out])
          have hle : ¬ tm2 + 1 ≤ tm2 := by omega
          clear h4
          go_wp2_with (first
            | (go_at_call 23; (with_reducible refine (HP2.out.state _ _ _ HRO.out HLD.out HTM2.out).mono ?_); rintro e' w8 ⟨rfl, rfl⟩)
            | (go_at_call 21; (with_reducible refine (HP2.out.drew.wants QQ.out _ _ HW.out).mono ?_); rintro e' w9 ⟨rfl, rfl⟩))
          go_roundw
          case rel => exact ⟨k + 1, by omega, by omega, by go_num, _, s2, by rw [HTM2.out], HP2.out.drew, QQ.out, HSELF.out⟩
          case measure => simp [intOf]; omega
        · have c3b : (ro == 3) = false := by simp [c3]
          have HW := Lib.hid (wantsN s2.x (by rw [HRO.out]; exact c3))
          by_cases c4 : ro = 4
          · subst c4
            obtain rfl : ld = (r : Int) := by rw [h4 rfl, HSELF.out]
            clear h4
            go_wp2_with (first
              | (go_at_call 23; (with_reducible refine (HP2.out.state _ _ _ HRO.out HLD.out HTM2.out).mono ?_); rintro e' w8 ⟨rfl, rfl⟩)
              | (go_at_call 21; (with_reducible refine (HP2.out.drew.wants QQ.out _ _ HW.out).mono ?_); rintro e' w9 ⟨rfl, rfl⟩))
            go_roundw
            case rel => exact ⟨k + 1, by omega, by omega, by go_num, _, s2, by rw [HTM2.out], HP2.out.drew, QQ.out, HSELF.out⟩
            case measure => simp [intOf]; omega
          · have c4b : (ro == 4) = false := by simp [c4]
            clear h4
            go_wp2_with (first
              | (go_at_call 23; (with_reducible refine (HP2.out.state _ _ _ HRO.out HLD.out HTM2.out).mono ?_); rintro e' w8 ⟨rfl, rfl⟩)
              | (go_at_call 21; (with_reducible refine (HP2.out.drew.wants QQ.out _ _ HW.out).mono ?_); rintro e' w9 ⟨rfl, rfl⟩))
            go_roundw
            case rel => exact ⟨k + 1, by omega, by omega, by go_num, _, s2, by rw [HTM2.out], HP2.out.drew, QQ.out, HSELF.out⟩
            case measure => simp [intOf]; omega
      · obtain rfl : k = 200 := by omega
        have HB := Lib.hid hp.b
        clear hp
        have hd200 : decide (((200 : Nat) : Int) < 200) = false := by decide
        go_wp2
        go_ret
        exact ⟨rfl, HB.out⟩
    · obtain rfl : k = len := by omega
      have HB := Lib.hid hp.b
      clear hp
      go_wp2
      go_ret
      exact ⟨rfl, HB.out⟩
end Go.Proofs.Ytccmnphjiebiaaa
