/- WanCounts' own function returns true, whatever acts come. Condition: the list of acts lies whole in memory. -/
import Derived.Test.YtppjjbhbbnnpgaaCw
import Derived.Test.YtppjjbhbbnnpgaaCuts
import Derived.Deep.CutBlock
namespace Go.Proofs.Ytppjjbhbbnnpgaa
open Go.RowKit G Go.Maps
set_option linter.unusedVariables false
set_option linter.unusedSimpArgs false
attribute [local go_sem] upon_value upon_skip upon_enter runAt_run
theorem key_eq {f t : Int} {s : ByteArray} : (Value.agg #[.int .i64 f, .int .i64 t, .string s]) = .agg #[.int .i64 (⟨f, t, s⟩ : Lt).f, .int .i64 (⟨f, t, s⟩ : Lt).t, .string (⟨f, t, s⟩ : Lt).s] := rfl
set_option maxHeartbeats 16000000 in
set_option maxRecDepth 100000 in
theorem counts_any (n0 : Int) (sa : Option Addr) (len cap : Nat) (ops : Nat → Opn) (w : World) (hg : OIn w sa len ops) :
    Calls Try.prog 4 #[.int .i64 n0, .slice sa len cap] w fun e w' => e = .returned (.bool true) ∧ Below w.heap.size w w' := by
  have hml := hg.1
  unfold maxLen at hml
  have HG := Lib.hid hg
  clear hg
  go_enter Try.func4, Try.ntmps4
  go_upto_region 3 with (go_at_call 23; (with_reducible refine (works_any _).mono ?_); rintro e' w1 ⟨rfl, hb1⟩)
  go_cut [0] from 18 to 22 (fun v0 wc => (∃ n : Nat, v0 = .int .i64 n ∧ 2 ≤ n ∧ n ≤ 16) ∧ Below w.heap.size w wc)
  case first =>
    go_wp2_with fail
    go_meet
    case rel =>
      obtain ⟨r1, e1, l1⟩ := rem_nat n0 15 (by omega) (by omega)
      simp only [show ((15 : Nat) : Int) = 15 from rfl] at e1
      exact ⟨⟨r1 + 2, by rw [e1]; congr 1; unfold wrap64; omega, by omega, by omega⟩, hb1⟩
  case rest =>
  clear hb1
  obtain ⟨⟨n, rfl, n2, n16⟩, hb1⟩ := hcut
  go_upto_region 7 with (go_at_call 6; (with_reducible refine (WW.born n _ (by omega) (by omega)).mono ?_); rintro e' w3 ⟨P, rfl, h3⟩)
  have hmm := @run_makeMap Try.prog
  have h3' := h3.base hb1
  have hMW : MW w (w3.alloc (.map #[] 0)) P (.slice none 0 0) (Wn.new n) w3.heap.size 0 (.map []) :=
    ⟨h3'.p.below (below_new _ _), below_of h3'.b (below_new _ _), h3'.f, World.ownsMap_made _ _ _ _, fun hm => absurd (h3'.p.lts _ hm) (Nat.lt_irrefl _), h3'.b.size⟩
  have hWI : WI (100 * 0) (Wn.new n) := WI.new (by omega)
  have hCI : CI 0 n 0 0 0 (Wn.new n) (.map []) := CI.start (by omega)
  clear h3 h3' hb1
  go_upto_region 8 with (fail)
  clear hmm
  generalize w3.alloc (.map #[] 0) = w4 at hMW ⊢
  generalize w3.heap.size = M at hMW ⊢
  go_wp2
  go_loopw [8, 9, 10, 11] (fun vi vo vr i wr => ∃ k a b c : Nat, k ≤ len ∧ k ≤ 200 ∧ i = .int .i64 k ∧ vi = .int .i64 a ∧ vo = .int .i64 b ∧ vr = .int .i64 c ∧ ∃ v x D, MW w wr P v x M k D ∧ WI (100 * k) x ∧ CI k n a b c x D) (fun _ _ _ i _ => 200 - (intOf i).toNat)
  case atStart => exact ⟨0, 0, 0, 0, Nat.zero_le _, Nat.zero_le _, rfl, rfl, rfl, rfl, _, _, _, hMW, hWI, hCI⟩
  case round =>
    obtain ⟨k, a, b, c, hk, hk2, rfl, rfl, rfl, rfl, v, x, D, hp, hq, hc⟩ := hrel
    clear hMW hWI hCI
    by_cases hin : k < len ∧ k < 200
    · obtain ⟨hlt, h200⟩ := hin
      obtain ⟨b0, o0, rfl, hbl, hz⟩ := HG.out.at hlt
      obtain ⟨z0, z1, z2, z3, z4, z5⟩ := hz _ hp.b
      have hd200 : decide ((k : Int) < 200) = true := by simp; omega
      have hl1 : (k : Int) < (len : Int) := by omega
      have HS := Lib.hid (HG.out.2.2 k hlt)
      generalize ops k = op at z0 z1 z2 z3 z4 z5 HS
      obtain ⟨K, of, ot, os, oi, oo⟩ := op
      simp only at z0 z1 z2 z3 z4 z5
      have HQ := Lib.hid (And.intro hq hc)
      go_upto_region 13 with (fail)
      have HB := Lib.hid (show MB w (wr.alloc (.cells #[.int .i64 K, .int .i64 of, .int .i64 ot, .string os, .int .i64 oi, .bool oo] 31)) P v x M k D wr.heap.size #[.int .i64 K, .int .i64 of, .int .i64 ot, .string os, .int .i64 oi, .bool oo] from
        ⟨hp.below (below_new _ _), Row.new wr #[.int .i64 K, .int .i64 of, .int .i64 ot, .string os, .int .i64 oi, .bool oo] 31, fun hm => absurd (hp.p.lts _ hm) (Nat.lt_irrefl _), fun e => absurd (e ▸ hp.m.lt) (Nat.lt_irrefl _)⟩)
      generalize wr.alloc (.cells #[.int .i64 K, .int .i64 of, .int .i64 ot, .string os, .int .i64 oi, .bool oo] 31) = wc2 at HB ⊢
      generalize wr.heap.size = B at HB ⊢
      have x0 : wc2.cell? ⟨B, 0, none⟩ = some (.int .i64 K) := HB.out.r.cell 0 _ rfl
      have x1 : wc2.cell? ⟨B, 1, none⟩ = some (.int .i64 of) := HB.out.r.cell 1 _ rfl
      have x2 : wc2.cell? ⟨B, 2, none⟩ = some (.int .i64 ot) := HB.out.r.cell 2 _ rfl
      have x3 : wc2.cell? ⟨B, 3, none⟩ = some (.string os) := HB.out.r.cell 3 _ rfl
      have x4 : wc2.cell? ⟨B, 4, none⟩ = some (.int .i64 oi) := HB.out.r.cell 4 _ rfl
      have x5 : wc2.cell? ⟨B, 5, none⟩ = some (.bool oo) := HB.out.r.cell 5 _ rfl
      clear z0 z1 z2 z3 z4 z5 hz hp hq hc
      by_cases h8 : 10000 < os.size
      · have h82 : (10000 : Int) < (os.size : Int) := by omega
        clear h8
        go_wp2
        go_ret
        exact ⟨rfl, HB.out.o.b⟩
      have h82 : ¬ (10000 : Int) < (os.size : Int) := by omega
      clear h8
      go_upto_block 2 with (fail)
      go_cut [8, 9, 10] from 55 to 130 (fun vi vo vr wc => ∃ a b c : Nat, vi = .int .i64 a ∧ vo = .int .i64 b ∧ vr = .int .i64 c ∧ ∃ v x D, MW w wc P v x M (k + 1) D ∧ WI (100 * (k + 1)) x ∧ CI (k + 1) n a b c x D)
      case first =>
        by_cases k0 : K = 0
        · subst k0
          obtain ⟨ce, hce⟩ : ∃ z, x.sendE ⟨of, ot, os⟩ = z := ⟨_, rfl⟩
          have HCE := Lib.hid hce
          clear hce
          go_upto_region 19 with (go_at_call 8; (with_reducible refine (HB.out.send HQ.out.1 (by omega) of ot os ce HCE.out).mono ?_); rintro e' w5 ⟨rfl, v5, hb5⟩)
          have HB5 := Lib.hid hb5
          have HWI := Lib.hid (show WI (100 * (k + 1)) (x.send ⟨of, ot, os⟩) from (HQ.out.1.send _).more (by omega))
          clear hb5 HB x0 x1 x2 x3 x4 x5
          have ha_ := HQ.out.2.p
          have hb_ := HQ.out.2.q
          have hc_ := HQ.out.2.r
          by_cases q0 : ce = 0
          · as_aux_lemma =>
            subst q0
            obtain ⟨hvd, -⟩ := sendE_ok (HQ.out.1.n) HCE.out
            obtain ⟨j, hj, hjk, -⟩ := HQ.out.2.d _ hvd
            have HV := Lib.hid (And.intro hvd (And.intro hj hjk))
            have HN := Lib.hid (HQ.out.2.sendOk HCE.out hj)
            clear hvd hj hjk
            have hw_j : wrap64 ((j : Int) + 1) = (j : Int) + 1 := wrap64_mid (by have := HV.out.2.2; omega) (by have := HV.out.2.2; omega)
            have hw_j2 : IntKind.i64.wrap ((j : Int) + 1) = (j : Int) + 1 := by rw [IntKind.wrap_i64]; have := HV.out.2.2; omega
            go_upto_region 21 with (fail)
            refine region_gen (Em w5 M k D ⟨of, ot, os⟩ j) (by kernel_rfl) (by kernel_rfl) (Em.start HB5.out.o.m HV.out.1 HV.out.2.1) ?_
            repeat
              (refine step_gen (by decide) (by rfl) (fun K_ hK => ?_)
               go_simp
               first
                 | (with_reducible apply H1.one
                    · intro σ wv hk_ hd hv
                      have hr := HB5.out.r.kept hv.k (by simp; exact HB5.out.m)
                      have y1 : wv.cell? ⟨B, 1, none⟩ = some (.int .i64 of) := hr.cell 1 _ rfl
                      have y2 : wv.cell? ⟨B, 2, none⟩ = some (.int .i64 ot) := hr.cell 2 _ rfl
                      have y3 : wv.cell? ⟨B, 3, none⟩ = some (.string os) := hr.cell 3 _ rfl
                      have Hv := Lib.hid hv
                      clear hv hr
                      go_simp
                      (with_reducible refine ⟨rfl, ?_⟩; exact Em.pure Hv.out (by decide) (by decide) (by decide))
                    refine hK _ _ _ ?_
                    clear hK K_)
                 | (with_reducible refine H1.any (· = .int .i64 (j : Int)) ⟨_, rfl⟩ ?_ ?_
                    · intro σ wv hk_ hd hv
                      have hl := hv.look hk_
                      have Hv := Lib.hid hv
                      clear hv
                      go_simp
                      exact Em.set8 Hv.out
                    intro v_ hv_
                    subst hv_
                    refine hK _ _ _ ?_
                    clear hK K_)
                 | (with_reducible refine H1.any IsEnt ⟨_, IsEnt.mk (.bool false) 0⟩ ?_ ?_
                    · intro σ wv hk_ hd hv
                      obtain ⟨v0_, st_, w1_, hr_, he_⟩ := hv.entry hk_ (by omega) HV.out.1 HV.out.2.1 (by have := HV.out.2.2; omega)
                      have He := Lib.hid he_
                      clear hv he_
                      go_simp
                      exact ⟨.mk _ _, He.out⟩
                    intro v_ hv_
                    obtain ⟨v0, st⟩ := hv_
                    refine hK _ _ _ ?_
                    clear hK K_))
            refine step_gen (by decide) (by rfl) (fun K_ hK => ?_)
            go_simp
            with_reducible apply H1.one
            · intro σ wv hk_ hd hv
              obtain ⟨w1_, hr_, he_⟩ := hv.store (hd.get 10 (List.mem_cons_self ..) (by kernel_rfl)) (hd.get 8 (List.mem_cons_of_mem _ (List.mem_cons_self ..)) (by kernel_rfl)) hk_
              have He := Lib.hid he_
              clear hv he_
              go_simp
              exact ⟨rfl, He.out _⟩
            refine hK _ _ _ ?_
            clear hK K_
            refine nil_gen ?_
            intro σ w9 hall ht hv
            obtain ⟨zz, hzz⟩ := Option.isSome_iff_exists.1 (hall 12 (by decide))
            have HW9 := Lib.hid ((HB5.out.put hv.k (hv.c _ hzz)).o)
            clear hv hall ht hzz zz σ
            have hw_a : wrap64 ((a : Int) + 1) = ((a + 1 : Nat) : Int) := by rw [wrap64_mid (by omega) (by omega)]; omega
            go_wp2
            go_meet
            case rel => exact ⟨a + 1, b, c, by go_num, rfl, rfl, _, _, _, HW9.out, HWI.out, HN.out⟩
          by_cases q1 : ce = 14
          · as_aux_lemma =>
            subst q1
            have HN := Lib.hid (HQ.out.2.sendNo (.inl HCE.out))
            have hw_c : wrap64 ((c : Int) + 1) = ((c + 1 : Nat) : Int) := by rw [wrap64_mid (by omega) (by omega)]; omega
            clear q0
            go_wp2
            go_meet
            case rel => exact ⟨a, b, c + 1, rfl, rfl, by go_num, _, _, _, HB5.out.o.mono (Nat.le_succ _), HWI.out, HN.out⟩
          by_cases q2 : ce = 2
          · as_aux_lemma =>
            subst q2
            have HN := Lib.hid (HQ.out.2.sendNo (.inr HCE.out))
            have hw_c : wrap64 ((c : Int) + 1) = ((c + 1 : Nat) : Int) := by rw [wrap64_mid (by omega) (by omega)]; omega
            clear q0 q1
            go_wp2
            go_meet
            case rel => exact ⟨a, b, c + 1, rfl, rfl, by go_num, _, _, _, HB5.out.o.mono (Nat.le_succ _), HWI.out, HN.out⟩
          · as_aux_lemma =>
            have HN := Lib.hid (HQ.out.2.sendBad (by rw [HCE.out]; exact q0) (by rw [HCE.out]; exact q1) (by rw [HCE.out]; exact q2))
            have r0 : (ce == 0) = false := by simp [q0]
            have r1 : (ce == 14) = false := by simp [q1]
            have r2 : (ce == 2) = false := by simp [q2]
            clear q0 q1 q2
            go_wp2
            go_meet
            case rel => exact ⟨a, b, c, rfl, rfl, rfl, _, _, _, HB5.out.o.mono (Nat.le_succ _), HWI.out, HN.out⟩
        by_cases k2 : K = 2
        · subst k2
          obtain ⟨ce, hce⟩ : ∃ z, x.dblE oi = z := ⟨_, rfl⟩
          have HCE := Lib.hid hce
          have HWI := Lib.hid (show WI (100 * (k + 1)) (x.dbl oi) from (HQ.out.1.dbl _).more (by omega))
          clear hce
          have ha_ := HQ.out.2.p
          have hb_ := HQ.out.2.q
          have hc_ := HQ.out.2.r
          by_cases q0 : ce = 0
          · as_aux_lemma =>
            subst q0
            have HN := Lib.hid (HQ.out.2.dblOk HCE.out)
            have hw_a : wrap64 ((a : Int) + 1) = ((a + 1 : Nat) : Int) := by rw [wrap64_mid (by omega) (by omega)]; omega
            go_wp2_with (go_at_call 13; (with_reducible refine (HB.out.dbl HQ.out.1 oi 0 HCE.out).mono ?_); rintro e' w5 ⟨rfl, v5, hb5⟩; have HB5 := Lib.hid hb5.o; clear hb5)
            go_meet
            case rel => exact ⟨a + 1, b, c, by go_num, rfl, rfl, _, _, _, HB5.out.mono (Nat.le_succ _), HWI.out, HN.out⟩
          · as_aux_lemma =>
            have HN := Lib.hid (HQ.out.2.dblNo (by rw [HCE.out]; exact q0))
            have r0 : (ce == 0) = false := by simp [q0]
            clear q0
            go_wp2_with (go_at_call 13; (with_reducible refine (HB.out.dbl HQ.out.1 oi ce HCE.out).mono ?_); rintro e' w5 ⟨rfl, v5, hb5⟩; have HB5 := Lib.hid hb5.o; clear hb5)
            go_meet
            case rel => exact ⟨a, b, c, rfl, rfl, rfl, _, _, _, HB5.out.mono (Nat.le_succ _), HWI.out, HN.out⟩
        by_cases k1 : K = 1
        · subst k1
          obtain ⟨lf, lt, lsx, hL⟩ : ∃ f t s, atL x.ls oi = ⟨f, t, s⟩ := ⟨_, _, _, rfl⟩
          obtain ⟨le, hE⟩ : ∃ e, atE x.ls oi = e := ⟨_, rfl⟩
          have HLE := Lib.hid (And.intro hL hE)
          clear hL hE
          go_upto_region 28 with (go_at_call 10; (with_reducible refine (HB.out.take HQ.out.1 oi lf lt lsx le HLE.out.1 HLE.out.2).mono ?_); rintro e' w5 ⟨rfl, v5, hb5⟩)
          have HB5 := Lib.hid ((hb5.o).below (below_new w5 (.cells #[.int .i64 lf, .int .i64 lt, .string lsx] 34)))
          have HR := Lib.hid (Row.new w5 #[.int .i64 lf, .int .i64 lt, .string lsx] 34)
          have HWI := Lib.hid (show WI (100 * (k + 1)) (x.take oi) from (HQ.out.1.take _).more (by omega))
          clear hb5 HB x0 x1 x2 x3 x4 x5
          generalize w5.alloc (.cells #[.int .i64 lf, .int .i64 lt, .string lsx] 34) = w6 at HB5 HR ⊢
          generalize w5.heap.size = B1 at HR ⊢
          have ha_ := HQ.out.2.p
          have hb_ := HQ.out.2.q
          have hc_ := HQ.out.2.r
          by_cases q0 : le = 0
          · as_aux_lemma =>
            subst q0
            obtain ⟨hn_, hvd, hout, j, hj, hj1, hjk⟩ := HQ.out.2.takeOk HLE.out.1 HLE.out.2
            have HN := Lib.hid hn_
            have HV := Lib.hid (And.intro hvd (And.intro hj (And.intro hj1 (And.intro hjk hout))))
            clear hn_ hvd hj hout
            have hj0 : ((j : Int) == 0) = false := by simp; omega
            clear hj1 hjk
            have hw_b : wrap64 ((b : Int) + 1) = ((b + 1 : Nat) : Int) := by rw [wrap64_mid (by omega) (by omega)]; omega
            have y0 : w6.cell? ⟨B1, 0, none⟩ = some (.int .i64 lf) := HR.out.cell 0 _ rfl
            have y1 : w6.cell? ⟨B1, 1, none⟩ = some (.int .i64 lt) := HR.out.cell 1 _ rfl
            have y2 : w6.cell? ⟨B1, 2, none⟩ = some (.string lsx) := HR.out.cell 2 _ rfl
            go_wp2_with (first
              | (go_at_call 12; (with_reducible refine (fromL_any lf lt lsx _).mono ?_); rintro e2 w7 ⟨rfl, hb7⟩; have HB7 := Lib.hid (HB5.out.below hb7); have HR7 := Lib.hid (HR.out.below hb7); have hlk := Mp.look HB7.out.m HV.out.1 HV.out.2.1; have t0 : w7.cell? ⟨B1, 0, none⟩ = some (.int .i64 lf) := HR7.out.cell 0 _ rfl; have t1 : w7.cell? ⟨B1, 1, none⟩ = some (.int .i64 lt) := HR7.out.cell 1 _ rfl; clear hb7 y0 y1 y2)
              | (go_at_call 19; (with_reducible refine (HB7.out.out HWI.out lf lt false HV.out.2.2.2.2).mono ?_); rintro e2 w8 ⟨rfl, hw8⟩; obtain rfl := hw8.symm))
            go_meet
            case rel => exact ⟨a, b + 1, c, rfl, by go_num, rfl, _, _, _, HB7.out.mono (Nat.le_succ _), HWI.out, HN.out⟩
          · as_aux_lemma =>
            have HN := Lib.hid (HQ.out.2.takeNo (by rw [HLE.out.2]; exact q0))
            have r0 : (le == 0) = false := by simp [q0]
            clear q0
            go_wp2
            go_meet
            case rel => exact ⟨a, b, c, rfl, rfl, rfl, _, _, _, HB5.out.mono (Nat.le_succ _), HWI.out, HN.out⟩
        as_aux_lemma =>
          have s0 : (K == 0) = false := by simp [k0]
          have s1 : (K == 1) = false := by simp [k1]
          have s2 : (K == 2) = false := by simp [k2]
          clear k0 k1 k2
          obtain ⟨ce, hce⟩ : ∃ z, cutE x.n of ot = z := ⟨_, rfl⟩
          have HCE := Lib.hid hce
          have HWI := Lib.hid (show WI (100 * (k + 1)) (x.cut of ot oo) from (HQ.out.1.cut _ _ _).more (by omega))
          have HN := Lib.hid (HQ.out.2.cut of ot oo)
          clear hce
          go_wp2_with (go_at_call 15; (with_reducible refine (HB.out.cut HQ.out.1 (by omega) of ot oo ce HCE.out).mono ?_); rintro e' w5 ⟨rfl, v5, hb5⟩; have HB5 := Lib.hid hb5.o; clear hb5)
          go_meet
          case rel => exact ⟨a, b, c, rfl, rfl, rfl, _, _, _, HB5.out.mono (Nat.le_succ _), HWI.out, HN.out⟩
      case rest =>
        as_aux_lemma =>
          obtain ⟨a, b, c, rfl, rfl, rfl, v, x, D, hp, hq, hc⟩ := hcut
          have HP := Lib.hid hp
          have HC := Lib.hid hc
          have HW := Lib.hid hq
          have hcp := hc.p
          have hcq := hc.q
          have hcr := hc.r
          have hce := hc.e
          have hl96 := hq.l
          have hl0 := hq.c0
          have hl1_ := hq.c1
          clear hp hq hc HB HQ x0 x1 x2 x3 x4 x5
          obtain ⟨wl, hwl⟩ : ∃ z, (x.ls.length : Int) = z := ⟨_, rfl⟩
          obtain ⟨lo, hlo⟩ : ∃ z, x.lost = z := ⟨_, rfl⟩
          have HVAL := Lib.hid (And.intro hwl hlo)
          have g96 : decide (96 < wl) = false := by simp; omega
          have s1 : wrap64 ((b : Int) + wl) = (b : Int) + wl := wrap64_mid (by omega) (by omega)
          have s2 : wrap64 ((b : Int) + wl + lo) = (b : Int) + wl + lo := wrap64_mid (by omega) (by omega)
          have s3 : wrap64 ((b : Int) + wl + lo - c) = (a : Int) := by rw [wrap64_mid (by omega) (by omega)]; omega
          have s4 : ((a : Int) != (a : Int)) = false := by simp
          clear hcp hcq hcr hce hl96 hl0 hl1_ hwl hlo
          go_wp2_with (first
            | (go_at_call 17; (with_reducible refine (HP.out.waits _ HVAL.out.1).mono ?_); rintro e1 w1 ⟨rfl, hw1⟩; obtain rfl := hw1.symm)
            | (go_at_call 18; (with_reducible refine (HP.out.lost _ HVAL.out.2).mono ?_); rintro e1 w1 ⟨rfl, hw1⟩; obtain rfl := hw1.symm))
          go_roundw
          case rel => exact ⟨k + 1, a, b, c, by omega, by omega, by go_num, rfl, rfl, rfl, _, _, _, HP.out, HW.out, HC.out⟩
          case measure => simp [intOf]; omega
    · as_aux_lemma =>
        by_cases hlt : k < len
        · have hd200 : decide ((k : Int) < 200) = false := by simp; omega
          have hl1 : (k : Int) < (len : Int) := by omega
          clear hin
          go_wp2
          go_ret
          exact ⟨rfl, hp.b⟩
        · have hl1 : ¬ (k : Int) < (len : Int) := by omega
          clear hin
          go_wp2
          go_ret
          exact ⟨rfl, hp.b⟩
end Go.Proofs.Ytppjjbhbbnnpgaa
