/- WanCuts' own function returns true, whatever is sent. Condition: the list of acts lies whole in memory. -/
import Derived.Test.YtppjjbhbbnnpgaaOps
namespace Go.Proofs.Ytppjjbhbbnnpgaa
open Go.RowKit G
set_option linter.unusedVariables false
set_option linter.unusedSimpArgs false
attribute [local go_sem] upon_value upon_skip upon_enter runAt_run
theorem rem_nat (a : Int) (m : Nat) (hm : 0 < m) (hm' : m ≤ 100000) : ∃ r : Nat, wrap64 ((IntKind.u64.wrap a).tmod m) = (r : Int) ∧ r < m := by
  have h0 : 0 ≤ IntKind.u64.wrap a := by rw [IntKind.wrap_u64]; omega
  obtain ⟨u, hu⟩ := Int.eq_ofNat_of_zero_le h0
  rw [hu]
  refine ⟨u % m, ?_, Nat.mod_lt _ hm⟩
  have := Nat.mod_lt u hm
  have e : ((u : Int).tmod m) = ((u % m : Nat) : Int) := rfl
  rw [e]
  unfold wrap64; omega
theorem atL_get {ls : List Lt} {k : Nat} {y : Lt} (h : ls[k]? = some y) : atL ls k = y ∧ atE ls k = 0 := by
  have hlt := (List.getElem?_eq_some_iff.1 h).1
  unfold atL atE
  rw [if_pos ⟨by omega, by omega⟩, if_pos ⟨by omega, by omega⟩]
  simp [h]
theorem Wn.send_n (x : Wn) (y : Lt) : (x.send y).n = x.n ∧ (x.send y).out = x.out := by unfold Wn.send; (split <;> (try split) <;> exact ⟨rfl, rfl⟩)
def outF : Nat → Nat → Bool := fun _ _ => false
theorem keep_mem {a b : Int} {ls : List Lt} {k : Nat} {y : Lt} (h : (keepL a b ls)[k]? = some y) : hit a b y = false := by
  have := List.mem_of_getElem? h
  unfold keepL at this
  rw [List.mem_filter] at this
  simpa using this.2
theorem link_ft {n f t : Nat} (hf : f < n) (ht : t < n) (h : f ≠ t) : linkB (n : Int) f t = true := by simp [linkB]; omega
theorem link_ff {n f : Nat} : linkB (n : Int) f f = false := by simp [linkB]
theorem cut_on_parts {x : Wn} {n f t : Nat} (hn : x.n = n) (hl : linkB (n : Int) f t = true) : (x.cut f t true).n = n ∧ (x.cut f t true).ls = keepL f t x.ls ∧ (x.cut f t true).out = outSet x.out f t true := by
  unfold Wn.cut
  rw [hn, if_pos hl, if_pos rfl]
  exact ⟨rfl, rfl, rfl⟩
theorem cut_off_parts {x : Wn} {n f t : Nat} (hn : x.n = n) (hl : linkB (n : Int) f t = true) : (x.cut f t false).n = n ∧ (x.cut f t false).ls = x.ls ∧ (x.cut f t false).out = outSet x.out f t false := by
  unfold Wn.cut
  rw [hn, if_pos hl, if_neg (by decide)]
  exact ⟨rfl, rfl, rfl⟩
theorem send_down_E {x : Wn} {n f t : Nat} (hn : x.n = n) (hl : linkB (n : Int) f t = true) (ho : x.out f t = true) : x.sendE ⟨f, t, ⟨#[]⟩⟩ = 14 := by
  simp [Wn.sendE, hn, hl, ho, ByteArray.size]
theorem send_down_ls {x : Wn} {y : Lt} (h : x.sendE y = 14) : (x.send y).ls = x.ls := by unfold Wn.send; rw [h]; rfl
theorem send_ok_E {x : Wn} {n f t : Nat} (hn : x.n = n) (hl : linkB (n : Int) f t = true) (ho : x.out f t = false) (hs : ¬ 96 ≤ x.ls.length) : x.sendE ⟨f, t, ⟨#[]⟩⟩ = 0 := by
  simp [Wn.sendE, hn, hl, ho, hs, ByteArray.size]
theorem out_parts {x : Wn} {n f t : Nat} {o : Bool} (hn : x.n = n) (hl : linkB (n : Int) f t = true) (ho : x.out f t = o) : x.outB f t = o := by simp [Wn.outB, hn, hl, ho]
theorem set_same {g : Nat → Nat → Bool} {f t : Nat} {o : Bool} : outSet g f t o f t = o := by simp [outSet]
theorem set_back {f t : Nat} {o : Bool} (h : f ≠ t) : outSet outF f t o t f = false := by
  unfold outSet
  rw [if_neg (by omega)]; rfl
theorem hit_no {a b : Int} {f t : Int} {s : ByteArray} (h : hit a b ⟨f, t, s⟩ = false) : ¬ (f = a ∧ t = b) := by simpa [hit] using h
set_option maxHeartbeats 8000000 in
set_option maxRecDepth 100000 in
theorem cuts_any (a : Int) (sa : Option Addr) (len cap : Nat) (ops : Nat → Opn) (b c : Int) (w : World) (hg : OIn w sa len ops) :
    Calls Try.prog 5 #[.int .i64 a, .slice sa len cap, .int .i64 b, .int .i64 c] w fun e w' => e = .returned (.bool true) ∧ Below w.heap.size w w' := by
  have hml := hg.1
  unfold maxLen at hml
  have HG := Lib.hid hg
  clear hg
  go_enter Try.func5, Try.ntmps5
  go_upto_region 3 with (go_at_call 23; (with_reducible refine (works_any _).mono ?_); rintro e' w1 ⟨rfl, hb1⟩)
  go_cut [0] (fun v0 wc => (∃ n : Nat, v0 = .int .i64 n ∧ 2 ≤ n ∧ n ≤ 16) ∧ Below w.heap.size w wc)
  case first =>
    go_wp2_with fail
    go_meet
    case rel =>
      obtain ⟨r1, e1, l1⟩ := rem_nat a 15 (by omega) (by omega)
      simp only [show ((15 : Nat) : Int) = 15 from rfl] at e1
      exact ⟨⟨r1 + 2, by rw [e1]; congr 1; unfold wrap64; omega, by omega, by omega⟩, hb1⟩
  case rest =>
  clear hb1
  obtain ⟨⟨n, rfl, n2, n16⟩, hb1⟩ := hcut
  obtain ⟨f, ef, hf⟩ := rem_nat b n (by omega) (by omega)
  obtain ⟨t, et, ht⟩ := rem_nat c n (by omega) (by omega)
  have hun : IntKind.u64.wrap (n : Int) = n := by rw [IntKind.wrap_u64]; omega
  have hn0 : ¬ (n : Int) = 0 := by omega
  go_upto_region 4 with (fail)
  go_quiet (fail)
  simp only [ef, et]
  have hb2 := Lib.hid (below_drewN hb1 nq)
  clear hb1
  generalize wc.drewN nq = w2 at hb2 ⊢
  go_upto_region 8 with (go_at_call 6; (with_reducible refine (WW.born n _ (by omega) (by omega)).mono ?_); rintro e' w3 ⟨P, rfl, h3⟩)
  have h3' := h3.base hb2.out
  have hq0 : WI 0 (Wn.new n) := WI.new (by omega)
  clear h3 hb2
  go_wp2
  go_loopw [11] (fun i wr => ∃ k : Nat, k ≤ len ∧ k ≤ 60 ∧ i = .int .i64 k ∧ ∃ v x, WW w wr P v x ∧ WI k x ∧ x.n = n ∧ x.out = outF) (fun i _ => 60 - (intOf i).toNat)
  case atStart => exact ⟨0, Nat.zero_le _, Nat.zero_le _, rfl, _, _, h3', hq0, rfl, rfl⟩
  case round =>
    obtain ⟨k, hk, hk2, rfl, v, x, hp, hq, hxn, hxo⟩ := hrel
    clear h3' hq0
    by_cases hin : k < len ∧ k < 60
    · obtain ⟨hlt, h60⟩ := hin
      obtain ⟨b0, o0, rfl, hbl, hz⟩ := HG.out.at hlt
      have HZ := Lib.hid hz
      obtain ⟨z0, z1, z2, z3, z4, z5⟩ := hz _ hp.b
      have hd60 : decide ((k : Int) < 60) = true := by simp; omega
      have hl1 : (k : Int) < (len : Int) := by omega
      have HS := Lib.hid (HG.out.2.2 k hlt)
      generalize ops k = op at z0 z1 z2 z3 z4 z5 HZ HS
      obtain ⟨ok, of, ot, os, oi, oo⟩ := op
      simp only at z0 z1 z2 z3 z4 z5 HZ
      have HP := Lib.hid (And.intro hp (And.intro hq (And.intro hxn hxo)))
      clear hz hp hq hxn hxo z0 z4 z5
      by_cases h8 : 8000 < os.size
      · have h82 : (8000 : Int) < (os.size : Int) := by omega
        clear h8
        go_wp2
        go_ret
        exact ⟨rfl, HP.out.1.b⟩
      · have h82 : ¬ (8000 : Int) < (os.size : Int) := by omega
        clear h8
        go_upto_region 13 with (fail)
        obtain ⟨se, hse⟩ : ∃ z, x.sendE ⟨of, ot, os⟩ = z := ⟨_, rfl⟩
        have HSE := Lib.hid hse
        clear hse
        refine region_gen (Cl 17 wr (fun wv => wv.cell? ⟨b0, o0 + k * 6 + 1, none⟩ = some (.int .i64 of) ∧ wv.cell? ⟨b0, o0 + k * 6 + 2, none⟩ = some (.int .i64 ot) ∧ wv.cell? ⟨b0, o0 + k * 6 + 3, none⟩ = some (.string os)) (fun _ wv => ∃ u, WW w wv P u (x.send ⟨of, ot, os⟩))) (by kernel_rfl) (by kernel_rfl) (Cl.start ⟨z1, z2, z3⟩) ?_
        repeat
          (refine step_gen (by decide) (by rfl) (fun K hK => ?_)
           go_simp
           first
             | (with_reducible apply H1.one
                · intro σ wv hk_ hd hv
                  obtain ⟨y1, y2, y3⟩ := hv.i
                  have Hv := Lib.hid hv
                  clear hv
                  go_simp
                  (first
                    | (with_reducible refine ⟨rfl, ?_⟩; exact Cl.pure Hv.out (by decide))
                    | (obtain ⟨m_, rfl⟩ := Hv.out.a hk_
                       refine (WW.send (show WW w (wr.drewN m_) P v x from ⟨HP.out.1.p.drewN m_, below_drewN HP.out.1.b m_, HP.out.1.f⟩) HP.out.2.1 (by omega) of ot os se HSE.out).mono ?_
                       rintro e2 w2 ⟨rfl, u2, hp2⟩
                       obtain ⟨t0, t1, t2, t3, -, -⟩ := HZ.out _ hp2.b
                       exact ⟨_, rfl, rfl, Cl.call ⟨t1, t2, t3⟩ ⟨u2, hp2⟩⟩))
                refine hK _ _ _ ?_
                clear hK K))
        refine nil_gen ?_
        intro σ w9 hall ht9 hv
        have hn17 := hall 17 (by decide)
        cases e17 : σ 17 with
        | none => rw [e17] at hn17; cases hn17
        | some yy =>
        obtain ⟨u9, hp9⟩ := hv.b yy e17
        have H9 := Lib.hid hp9
        clear hv hall ht9 hn17 e17 yy σ hp9
        go_wp2
        go_roundw
        case rel => exact ⟨k + 1, by omega, by omega, by go_num, u9, _, H9.out, HP.out.2.1.send _, by rw [(Wn.send_n _ _).1]; exact HP.out.2.2.1, by rw [(Wn.send_n _ _).2]; exact HP.out.2.2.2⟩
        case measure => simp [intOf]; omega
    · by_cases hlt : k < len
      · have hd60 : decide ((k : Int) < 60) = false := by simp; omega
        have hl1 : (k : Int) < (len : Int) := by omega
        clear hin
        have HP := Lib.hid (And.intro hp (And.intro hq (And.intro hxn hxo)))
        clear hp hq hxn hxo
        have HFT := Lib.hid (And.intro hf (And.intro ht (And.intro n2 n16)))
        go_wp2
        go_loopw [12, 13] (fun vo vi wr2 => ∃ j : Nat, j ≤ x.ls.length ∧ vi = .int .i64 j ∧ vo = .int .i64 ((keepL f t (x.ls.take j)).length : Nat) ∧ WW w wr2 P v x) (fun _ vi _ => x.ls.length - (intOf vi).toNat)
        case atStart => exact ⟨0, Nat.zero_le _, rfl, rfl, HP.out.1⟩
        case round =>
          obtain ⟨j, hj, rfl, rfl, hp⟩ := hrel
          have hlen := HP.out.2.1.l
          have HW := Lib.hid hp
          clear hp
          by_cases hlt : j < x.ls.length
          · have ek := List.getElem?_eq_getElem hlt
            generalize x.ls[j] = y at ek
            obtain ⟨yf, yt, ys⟩ := y
            obtain ⟨ea, ee⟩ := atL_get ek
            have HE := Lib.hid ek
            have HA := Lib.hid (And.intro ea ee)
            have hjl : (j : Int) < (x.ls.length : Int) := by omega
            have hkl := keep_le f t x.ls j
            clear ek ea ee
            go_upto_region 19 with (first
              | (go_at_call 17; (with_reducible refine (HW.out.waits _ rfl).mono ?_); rintro e1 w1 ⟨rfl, hw1⟩; obtain rfl := hw1.symm)
              | (go_at_call 21; (with_reducible refine (HW.out.at HP.out.2.1 j yf yt ys 0 HA.out.1 HA.out.2).mono ?_); rintro e1 w1 ⟨rfl, hp1⟩; have HW1 := Lib.hid hp1; clear hp1))
            have hbx := Row.new w1 #[.int .i64 yf, .int .i64 yt, .string ys] 34
            have HW2 := Lib.hid (HW1.out.below (below_new w1 (.cells #[.int .i64 yf, .int .i64 yt, .string ys] 34)))
            generalize w1.alloc (.cells #[.int .i64 yf, .int .i64 yt, .string ys] 34) = w5 at hbx HW2 ⊢
            generalize w1.heap.size = B at hbx ⊢
            have x0 : w5.cell? ⟨B, 0, none⟩ = some (.int .i64 yf) := hbx.cell 0 _ rfl
            have x1 : w5.cell? ⟨B, 1, none⟩ = some (.int .i64 yt) := hbx.cell 1 _ rfl
            clear hbx HW HW1
            have hw1 : wrap64 (((keepL f t (x.ls.take j)).length : Int) + 1) = ((keepL f t (x.ls.take j)).length : Int) + 1 := wrap64_mid (by omega) (by omega)
            cases hh : hit f t ⟨yf, yt, ys⟩
            · have hno := hit_no hh
              have HK := Lib.hid (keep_miss HE.out hh)
              clear hh
              have HK2 := Lib.hid (show (keepL f t (x.ls.take (j + 1))).length = (keepL f t (x.ls.take j)).length + 1 by rw [HK.out]; simp)
              obtain ⟨q, hqq⟩ : ∃ q, (keepL f t (x.ls.take j)).length = q := ⟨_, rfl⟩
              rw [hqq] at hkl hw1 HK2
              rw [hqq]
              clear hqq HK
              by_cases q1 : yf = f
              · have q2 : ¬ yt = t := fun e => hno ⟨q1, e⟩
                have c1 : (yf != (f : Int)) = false := by simp [q1]
                have c2 : (yt != (t : Int)) = true := by simp [q2]
                clear hno q1 q2
                go_wp2
                go_roundw
                case rel => exact ⟨j + 1, by omega, by go_num, congrArg (Value.int .i64) (by have := HK2.out; omega), HW2.out⟩
                case measure => simp [intOf]; omega
              · have c1 : (yf != (f : Int)) = true := by simp [q1]
                clear hno q1
                go_wp2
                go_roundw
                case rel => exact ⟨j + 1, by omega, by go_num, congrArg (Value.int .i64) (by have := HK2.out; omega), HW2.out⟩
                case measure => simp [intOf]; omega
            · have hyes : yf = f ∧ yt = t := by simpa [hit] using hh
              have HK := Lib.hid (keep_hit HE.out hh)
              obtain ⟨rfl, rfl⟩ := hyes
              clear hh
              have c1 : ((f : Int) != (f : Int)) = false := by simp
              have c2 : ((t : Int) != (t : Int)) = false := by simp
              go_wp2
              go_roundw
              case rel => exact ⟨j + 1, by omega, by go_num, by rw [HK.out], HW2.out⟩
              case measure => simp [intOf]; omega
          · obtain rfl : j = x.ls.length := by omega
            have HX2 := Lib.hid (show (keepL f t (x.ls.take x.ls.length)).length = (keepL f t x.ls).length by rw [List.take_length])
            rw [HX2.out]
            obtain ⟨q, hqq⟩ : ∃ q, (keepL f t x.ls).length = q := ⟨_, rfl⟩
            rw [hqq]
            have HQQ := Lib.hid hqq
            clear hqq HX2
            by_cases hft : f = t
            · subst hft
              have HE := Lib.hid (show cutE x.n f f = 1 by rw [HP.out.2.2.1]; simp [cutE, link_ff])
              have c1 : ((f : Int) == (f : Int)) = true := by simp
              go_wp2_with (first
                | (go_at_call 17; (with_reducible refine (HW.out.waits _ rfl).mono ?_); rintro e1 w1 ⟨rfl, hw1⟩; obtain rfl := hw1.symm)
                | (go_at_call 15; (with_reducible refine (HW.out.cut HP.out.2.1 (by omega) f f true 1 HE.out).mono ?_); rintro e1 w1 ⟨rfl, u1, hp1⟩; have HC := Lib.hid hp1; clear hp1))
              go_ret
              exact ⟨rfl, HC.out.b⟩
            · have HLK := Lib.hid (And.intro (link_ft hf ht hft) (And.intro (link_ft ht hf (Ne.symm hft)) hft))
              have HE := Lib.hid (show cutE x.n f t = 0 by rw [HP.out.2.2.1]; simp [cutE, HLK.out.1])
              have c1 : ((f : Int) == (t : Int)) = false := by simp; omega
              clear hft
              go_upto_region 24 with (first
                | (go_at_call 17; (with_reducible refine (HW.out.waits _ rfl).mono ?_); rintro e1 w1 ⟨rfl, hw1⟩; obtain rfl := hw1.symm)
                | (go_at_call 15; (with_reducible refine (HW.out.cut HP.out.2.1 (by omega) f t true 0 HE.out).mono ?_); rintro e1 w2 ⟨rfl, u2, hp2⟩; have HC := Lib.hid hp2; clear hp2))
              have hparts := cut_on_parts HP.out.2.2.1 HLK.out.1
              rw [HP.out.2.2.2] at hparts
              have hq2 : WI (k + 96) (x.cut f t true) := HP.out.2.1.cut _ _ _
              generalize x.cut f t true = x2 at HC hparts hq2
              have HX := Lib.hid (And.intro hparts.1 (And.intro hparts.2.1 (And.intro hparts.2.2 hq2)))
              have HA := Lib.hid (show (x2.ls.length : Int) = q by rw [HX.out.2.1, HQQ.out])
              have HB := Lib.hid (show x2.outB f t = true from out_parts HX.out.1 HLK.out.1 (by rw [HX.out.2.2.1]; exact set_same))
              have HC2 := Lib.hid (show x2.outB t f = false from out_parts HX.out.1 HLK.out.2.1 (by rw [HX.out.2.2.1]; exact set_back HLK.out.2.2))
              have HD := Lib.hid (show x2.sendE ⟨f, t, ⟨#[]⟩⟩ = 14 from send_down_E HX.out.1 HLK.out.1 (by rw [HX.out.2.2.1]; exact set_same))
              clear hparts hq2 HW
              go_upto_region 26 with (first
                | (go_at_call 17; (with_reducible refine (HC.out.waits _ HA.out).mono ?_); rintro e1 w1 ⟨rfl, hw1⟩; obtain rfl := hw1.symm)
                | (go_at_call 19; (with_reducible refine (HC.out.out HX.out.2.2.2 f t true HB.out).mono ?_); rintro e1 w1 ⟨rfl, hw1⟩; obtain rfl := hw1.symm)
                | (go_at_call 19; (with_reducible refine (HC.out.out HX.out.2.2.2 t f false HC2.out).mono ?_); rintro e1 w1 ⟨rfl, hw1⟩; obtain rfl := hw1.symm)
                | (go_at_call 8; (with_reducible refine (HC.out.send HX.out.2.2.2 (by omega) f t ⟨#[]⟩ 14 HD.out).mono ?_); rintro e1 w3 ⟨rfl, u3, hp3⟩; have HS3 := Lib.hid hp3; clear hp3))
              have h3n : (x2.send ⟨f, t, ⟨#[]⟩⟩).n = n := by rw [(Wn.send_n _ _).1]; exact HX.out.1
              have h3o : (x2.send ⟨f, t, ⟨#[]⟩⟩).out = outSet outF f t true := by rw [(Wn.send_n _ _).2]; exact HX.out.2.2.1
              have h3l : (x2.send ⟨f, t, ⟨#[]⟩⟩).ls = keepL f t x.ls := by rw [send_down_ls HD.out]; exact HX.out.2.1
              have h3q : WI (k + 97) (x2.send ⟨f, t, ⟨#[]⟩⟩) := HX.out.2.2.2.send _
              generalize x2.send ⟨f, t, ⟨#[]⟩⟩ = x3 at HS3 h3n h3o h3l h3q
              have H3 := Lib.hid (And.intro h3n (And.intro h3o (And.intro h3l h3q)))
              clear h3n h3o h3l h3q HC HA HB HC2 HD
              go_wp2
              go_loopw [17] (fun vi wr3 => ∃ j : Nat, j ≤ x3.ls.length ∧ vi = .int .i64 j ∧ WW w wr3 P u3 x3) (fun vi _ => x3.ls.length - (intOf vi).toNat)
              case atStart => exact ⟨0, Nat.zero_le _, rfl, HS3.out⟩
              case round =>
                obtain ⟨j, hj, rfl, hp⟩ := hrel
                have hlen := H3.out.2.2.2.l
                have HW := Lib.hid hp
                clear hp HS3
                by_cases hlt : j < x3.ls.length
                · have ek := List.getElem?_eq_getElem hlt
                  generalize x3.ls[j] = y at ek
                  obtain ⟨yf, yt, ys⟩ := y
                  obtain ⟨ea, ee⟩ := atL_get ek
                  have HA := Lib.hid (And.intro ea ee)
                  rw [H3.out.2.2.1] at ek
                  have hno := hit_no (keep_mem ek)
                  have hjl : (j : Int) < (x3.ls.length : Int) := by omega
                  clear ek ea ee
                  go_upto_region 30 with (first
                    | (go_at_call 17; (with_reducible refine (HW.out.waits _ rfl).mono ?_); rintro e1 w1 ⟨rfl, hw1⟩; obtain rfl := hw1.symm)
                    | (go_at_call 21; (with_reducible refine (HW.out.at H3.out.2.2.2 j yf yt ys 0 HA.out.1 HA.out.2).mono ?_); rintro e1 w1 ⟨rfl, hp1⟩; have HW1 := Lib.hid hp1; clear hp1))
                  have hbx := Row.new w1 #[.int .i64 yf, .int .i64 yt, .string ys] 34
                  have HW2 := Lib.hid (HW1.out.below (below_new w1 (.cells #[.int .i64 yf, .int .i64 yt, .string ys] 34)))
                  generalize w1.alloc (.cells #[.int .i64 yf, .int .i64 yt, .string ys] 34) = w5 at hbx HW2 ⊢
                  generalize w1.heap.size = B at hbx ⊢
                  have x0 : w5.cell? ⟨B, 0, none⟩ = some (.int .i64 yf) := hbx.cell 0 _ rfl
                  have x1 : w5.cell? ⟨B, 1, none⟩ = some (.int .i64 yt) := hbx.cell 1 _ rfl
                  clear hbx HW HW1
                  by_cases q1 : yf = f
                  · have q2 : ¬ yt = t := fun e => hno ⟨q1, e⟩
                    have c1 : (yf == (f : Int)) = true := by simp [q1]
                    have c2 : (yt == (t : Int)) = false := by simp [q2]
                    clear hno q1 q2
                    go_wp2
                    go_roundw
                    case rel => exact ⟨j + 1, by omega, by go_num, HW2.out⟩
                    case measure => simp [intOf]; omega
                  · have c1 : (yf == (f : Int)) = false := by simp [q1]
                    clear hno q1
                    go_wp2
                    go_roundw
                    case rel => exact ⟨j + 1, by omega, by go_num, HW2.out⟩
                    case measure => simp [intOf]; omega
                · obtain rfl : j = x3.ls.length := by omega
                  have HE4 := Lib.hid (show cutE x3.n f t = 0 by rw [H3.out.1]; simp [cutE, HLK.out.1])
                  have h4 := cut_off_parts H3.out.1 HLK.out.1
                  have h4q : WI (k + 97 + 96) (x3.cut f t false) := H3.out.2.2.2.cut _ _ _
                  have H4 := Lib.hid (And.intro h4.1 (And.intro h4.2.1 (And.intro (show (x3.cut f t false).out f t = false by rw [h4.2.2]; exact set_same) h4q)))
                  have HO4 := Lib.hid (show (x3.cut f t false).outB f t = false from out_parts H4.out.1 HLK.out.1 H4.out.2.2.1)
                  have HL4 := Lib.hid (show (((x3.cut f t false).ls.length : Nat) : Int) = (x3.ls.length : Int) by rw [H4.out.2.1])
                  clear h4 h4q
                  by_cases h96 : 96 ≤ x3.ls.length
                  · have h962 : (96 : Int) ≤ (x3.ls.length : Int) := by omega
                    clear h96
                    go_wp2_with (first
                      | (go_at_call 17; (with_reducible refine (HW.out.waits _ rfl).mono ?_); rintro e1 w1 ⟨rfl, hw1⟩; obtain rfl := hw1.symm)
                      | (go_at_call 15; (with_reducible refine (HW.out.cut H3.out.2.2.2 (by omega) f t false 0 HE4.out).mono ?_); rintro e1 w6 ⟨rfl, u6, hp6⟩; have HC6 := Lib.hid hp6; clear hp6)
                      | (go_at_call 19; (with_reducible refine (HC6.out.out H4.out.2.2.2 f t false HO4.out).mono ?_); rintro e1 w1 ⟨rfl, hw1⟩; obtain rfl := hw1.symm)
                      | (go_at_call 17; (with_reducible refine (HC6.out.waits _ HL4.out).mono ?_); rintro e1 w1 ⟨rfl, hw1⟩; obtain rfl := hw1.symm))
                    go_ret
                    exact ⟨rfl, HC6.out.b⟩
                  · have h962 : ¬ (96 : Int) ≤ (x3.ls.length : Int) := by omega
                    have HS4 := Lib.hid (show (x3.cut f t false).sendE ⟨f, t, ⟨#[]⟩⟩ = 0 from send_ok_E H4.out.1 HLK.out.1 H4.out.2.2.1 (by rw [H4.out.2.1]; exact h96))
                    clear h96
                    go_wp2_with (first
                      | (go_at_call 17; (with_reducible refine (HW.out.waits _ rfl).mono ?_); rintro e1 w1 ⟨rfl, hw1⟩; obtain rfl := hw1.symm)
                      | (go_at_call 15; (with_reducible refine (HW.out.cut H3.out.2.2.2 (by omega) f t false 0 HE4.out).mono ?_); rintro e1 w6 ⟨rfl, u6, hp6⟩; have HC6 := Lib.hid hp6; clear hp6)
                      | (go_at_call 19; (with_reducible refine (HC6.out.out H4.out.2.2.2 f t false HO4.out).mono ?_); rintro e1 w1 ⟨rfl, hw1⟩; obtain rfl := hw1.symm)
                      | (go_at_call 17; (with_reducible refine (HC6.out.waits _ HL4.out).mono ?_); rintro e1 w1 ⟨rfl, hw1⟩; obtain rfl := hw1.symm)
                      | (go_at_call 8; (with_reducible refine (HC6.out.send H4.out.2.2.2 (by omega) f t ⟨#[]⟩ 0 HS4.out).mono ?_); rintro e1 w7 ⟨rfl, u7, hp7⟩; have HS7 := Lib.hid hp7; clear hp7))
                    go_ret
                    exact ⟨rfl, HS7.out.b⟩
      · have hl1 : ¬ (k : Int) < (len : Int) := by omega
        clear hin
        have HP := Lib.hid (And.intro hp (And.intro hq (And.intro hxn hxo)))
        clear hp hq hxn hxo
        have HFT := Lib.hid (And.intro hf (And.intro ht (And.intro n2 n16)))
        go_wp2
        go_loopw [12, 13] (fun vo vi wr2 => ∃ j : Nat, j ≤ x.ls.length ∧ vi = .int .i64 j ∧ vo = .int .i64 ((keepL f t (x.ls.take j)).length : Nat) ∧ WW w wr2 P v x) (fun _ vi _ => x.ls.length - (intOf vi).toNat)
        case atStart => exact ⟨0, Nat.zero_le _, rfl, rfl, HP.out.1⟩
        case round =>
          obtain ⟨j, hj, rfl, rfl, hp⟩ := hrel
          have hlen := HP.out.2.1.l
          have HW := Lib.hid hp
          clear hp
          by_cases hlt : j < x.ls.length
          · have ek := List.getElem?_eq_getElem hlt
            generalize x.ls[j] = y at ek
            obtain ⟨yf, yt, ys⟩ := y
            obtain ⟨ea, ee⟩ := atL_get ek
            have HE := Lib.hid ek
            have HA := Lib.hid (And.intro ea ee)
            have hjl : (j : Int) < (x.ls.length : Int) := by omega
            have hkl := keep_le f t x.ls j
            clear ek ea ee
            go_upto_region 19 with (first
              | (go_at_call 17; (with_reducible refine (HW.out.waits _ rfl).mono ?_); rintro e1 w1 ⟨rfl, hw1⟩; obtain rfl := hw1.symm)
              | (go_at_call 21; (with_reducible refine (HW.out.at HP.out.2.1 j yf yt ys 0 HA.out.1 HA.out.2).mono ?_); rintro e1 w1 ⟨rfl, hp1⟩; have HW1 := Lib.hid hp1; clear hp1))
            have hbx := Row.new w1 #[.int .i64 yf, .int .i64 yt, .string ys] 34
            have HW2 := Lib.hid (HW1.out.below (below_new w1 (.cells #[.int .i64 yf, .int .i64 yt, .string ys] 34)))
            generalize w1.alloc (.cells #[.int .i64 yf, .int .i64 yt, .string ys] 34) = w5 at hbx HW2 ⊢
            generalize w1.heap.size = B at hbx ⊢
            have x0 : w5.cell? ⟨B, 0, none⟩ = some (.int .i64 yf) := hbx.cell 0 _ rfl
            have x1 : w5.cell? ⟨B, 1, none⟩ = some (.int .i64 yt) := hbx.cell 1 _ rfl
            clear hbx HW HW1
            have hw1 : wrap64 (((keepL f t (x.ls.take j)).length : Int) + 1) = ((keepL f t (x.ls.take j)).length : Int) + 1 := wrap64_mid (by omega) (by omega)
            cases hh : hit f t ⟨yf, yt, ys⟩
            · have hno := hit_no hh
              have HK := Lib.hid (keep_miss HE.out hh)
              clear hh
              have HK2 := Lib.hid (show (keepL f t (x.ls.take (j + 1))).length = (keepL f t (x.ls.take j)).length + 1 by rw [HK.out]; simp)
              obtain ⟨q, hqq⟩ : ∃ q, (keepL f t (x.ls.take j)).length = q := ⟨_, rfl⟩
              rw [hqq] at hkl hw1 HK2
              rw [hqq]
              clear hqq HK
              by_cases q1 : yf = f
              · have q2 : ¬ yt = t := fun e => hno ⟨q1, e⟩
                have c1 : (yf != (f : Int)) = false := by simp [q1]
                have c2 : (yt != (t : Int)) = true := by simp [q2]
                clear hno q1 q2
                go_wp2
                go_roundw
                case rel => exact ⟨j + 1, by omega, by go_num, congrArg (Value.int .i64) (by have := HK2.out; omega), HW2.out⟩
                case measure => simp [intOf]; omega
              · have c1 : (yf != (f : Int)) = true := by simp [q1]
                clear hno q1
                go_wp2
                go_roundw
                case rel => exact ⟨j + 1, by omega, by go_num, congrArg (Value.int .i64) (by have := HK2.out; omega), HW2.out⟩
                case measure => simp [intOf]; omega
            · have hyes : yf = f ∧ yt = t := by simpa [hit] using hh
              have HK := Lib.hid (keep_hit HE.out hh)
              obtain ⟨rfl, rfl⟩ := hyes
              clear hh
              have c1 : ((f : Int) != (f : Int)) = false := by simp
              have c2 : ((t : Int) != (t : Int)) = false := by simp
              go_wp2
              go_roundw
              case rel => exact ⟨j + 1, by omega, by go_num, by rw [HK.out], HW2.out⟩
              case measure => simp [intOf]; omega
          · obtain rfl : j = x.ls.length := by omega
            have HX2 := Lib.hid (show (keepL f t (x.ls.take x.ls.length)).length = (keepL f t x.ls).length by rw [List.take_length])
            rw [HX2.out]
            obtain ⟨q, hqq⟩ : ∃ q, (keepL f t x.ls).length = q := ⟨_, rfl⟩
            rw [hqq]
            have HQQ := Lib.hid hqq
            clear hqq HX2
            by_cases hft : f = t
            · subst hft
              have HE := Lib.hid (show cutE x.n f f = 1 by rw [HP.out.2.2.1]; simp [cutE, link_ff])
              have c1 : ((f : Int) == (f : Int)) = true := by simp
              go_wp2_with (first
                | (go_at_call 17; (with_reducible refine (HW.out.waits _ rfl).mono ?_); rintro e1 w1 ⟨rfl, hw1⟩; obtain rfl := hw1.symm)
                | (go_at_call 15; (with_reducible refine (HW.out.cut HP.out.2.1 (by omega) f f true 1 HE.out).mono ?_); rintro e1 w1 ⟨rfl, u1, hp1⟩; have HC := Lib.hid hp1; clear hp1))
              go_ret
              exact ⟨rfl, HC.out.b⟩
            · have HLK := Lib.hid (And.intro (link_ft hf ht hft) (And.intro (link_ft ht hf (Ne.symm hft)) hft))
              have HE := Lib.hid (show cutE x.n f t = 0 by rw [HP.out.2.2.1]; simp [cutE, HLK.out.1])
              have c1 : ((f : Int) == (t : Int)) = false := by simp; omega
              clear hft
              go_upto_region 24 with (first
                | (go_at_call 17; (with_reducible refine (HW.out.waits _ rfl).mono ?_); rintro e1 w1 ⟨rfl, hw1⟩; obtain rfl := hw1.symm)
                | (go_at_call 15; (with_reducible refine (HW.out.cut HP.out.2.1 (by omega) f t true 0 HE.out).mono ?_); rintro e1 w2 ⟨rfl, u2, hp2⟩; have HC := Lib.hid hp2; clear hp2))
              have hparts := cut_on_parts HP.out.2.2.1 HLK.out.1
              rw [HP.out.2.2.2] at hparts
              have hq2 : WI (k + 96) (x.cut f t true) := HP.out.2.1.cut _ _ _
              generalize x.cut f t true = x2 at HC hparts hq2
              have HX := Lib.hid (And.intro hparts.1 (And.intro hparts.2.1 (And.intro hparts.2.2 hq2)))
              have HA := Lib.hid (show (x2.ls.length : Int) = q by rw [HX.out.2.1, HQQ.out])
              have HB := Lib.hid (show x2.outB f t = true from out_parts HX.out.1 HLK.out.1 (by rw [HX.out.2.2.1]; exact set_same))
              have HC2 := Lib.hid (show x2.outB t f = false from out_parts HX.out.1 HLK.out.2.1 (by rw [HX.out.2.2.1]; exact set_back HLK.out.2.2))
              have HD := Lib.hid (show x2.sendE ⟨f, t, ⟨#[]⟩⟩ = 14 from send_down_E HX.out.1 HLK.out.1 (by rw [HX.out.2.2.1]; exact set_same))
              clear hparts hq2 HW
              go_upto_region 26 with (first
                | (go_at_call 17; (with_reducible refine (HC.out.waits _ HA.out).mono ?_); rintro e1 w1 ⟨rfl, hw1⟩; obtain rfl := hw1.symm)
                | (go_at_call 19; (with_reducible refine (HC.out.out HX.out.2.2.2 f t true HB.out).mono ?_); rintro e1 w1 ⟨rfl, hw1⟩; obtain rfl := hw1.symm)
                | (go_at_call 19; (with_reducible refine (HC.out.out HX.out.2.2.2 t f false HC2.out).mono ?_); rintro e1 w1 ⟨rfl, hw1⟩; obtain rfl := hw1.symm)
                | (go_at_call 8; (with_reducible refine (HC.out.send HX.out.2.2.2 (by omega) f t ⟨#[]⟩ 14 HD.out).mono ?_); rintro e1 w3 ⟨rfl, u3, hp3⟩; have HS3 := Lib.hid hp3; clear hp3))
              have h3n : (x2.send ⟨f, t, ⟨#[]⟩⟩).n = n := by rw [(Wn.send_n _ _).1]; exact HX.out.1
              have h3o : (x2.send ⟨f, t, ⟨#[]⟩⟩).out = outSet outF f t true := by rw [(Wn.send_n _ _).2]; exact HX.out.2.2.1
              have h3l : (x2.send ⟨f, t, ⟨#[]⟩⟩).ls = keepL f t x.ls := by rw [send_down_ls HD.out]; exact HX.out.2.1
              have h3q : WI (k + 97) (x2.send ⟨f, t, ⟨#[]⟩⟩) := HX.out.2.2.2.send _
              generalize x2.send ⟨f, t, ⟨#[]⟩⟩ = x3 at HS3 h3n h3o h3l h3q
              have H3 := Lib.hid (And.intro h3n (And.intro h3o (And.intro h3l h3q)))
              clear h3n h3o h3l h3q HC HA HB HC2 HD
              go_wp2
              go_loopw [17] (fun vi wr3 => ∃ j : Nat, j ≤ x3.ls.length ∧ vi = .int .i64 j ∧ WW w wr3 P u3 x3) (fun vi _ => x3.ls.length - (intOf vi).toNat)
              case atStart => exact ⟨0, Nat.zero_le _, rfl, HS3.out⟩
              case round =>
                obtain ⟨j, hj, rfl, hp⟩ := hrel
                have hlen := H3.out.2.2.2.l
                have HW := Lib.hid hp
                clear hp HS3
                by_cases hlt : j < x3.ls.length
                · have ek := List.getElem?_eq_getElem hlt
                  generalize x3.ls[j] = y at ek
                  obtain ⟨yf, yt, ys⟩ := y
                  obtain ⟨ea, ee⟩ := atL_get ek
                  have HA := Lib.hid (And.intro ea ee)
                  rw [H3.out.2.2.1] at ek
                  have hno := hit_no (keep_mem ek)
                  have hjl : (j : Int) < (x3.ls.length : Int) := by omega
                  clear ek ea ee
                  go_upto_region 30 with (first
                    | (go_at_call 17; (with_reducible refine (HW.out.waits _ rfl).mono ?_); rintro e1 w1 ⟨rfl, hw1⟩; obtain rfl := hw1.symm)
                    | (go_at_call 21; (with_reducible refine (HW.out.at H3.out.2.2.2 j yf yt ys 0 HA.out.1 HA.out.2).mono ?_); rintro e1 w1 ⟨rfl, hp1⟩; have HW1 := Lib.hid hp1; clear hp1))
                  have hbx := Row.new w1 #[.int .i64 yf, .int .i64 yt, .string ys] 34
                  have HW2 := Lib.hid (HW1.out.below (below_new w1 (.cells #[.int .i64 yf, .int .i64 yt, .string ys] 34)))
                  generalize w1.alloc (.cells #[.int .i64 yf, .int .i64 yt, .string ys] 34) = w5 at hbx HW2 ⊢
                  generalize w1.heap.size = B at hbx ⊢
                  have x0 : w5.cell? ⟨B, 0, none⟩ = some (.int .i64 yf) := hbx.cell 0 _ rfl
                  have x1 : w5.cell? ⟨B, 1, none⟩ = some (.int .i64 yt) := hbx.cell 1 _ rfl
                  clear hbx HW HW1
                  by_cases q1 : yf = f
                  · have q2 : ¬ yt = t := fun e => hno ⟨q1, e⟩
                    have c1 : (yf == (f : Int)) = true := by simp [q1]
                    have c2 : (yt == (t : Int)) = false := by simp [q2]
                    clear hno q1 q2
                    go_wp2
                    go_roundw
                    case rel => exact ⟨j + 1, by omega, by go_num, HW2.out⟩
                    case measure => simp [intOf]; omega
                  · have c1 : (yf == (f : Int)) = false := by simp [q1]
                    clear hno q1
                    go_wp2
                    go_roundw
                    case rel => exact ⟨j + 1, by omega, by go_num, HW2.out⟩
                    case measure => simp [intOf]; omega
                · obtain rfl : j = x3.ls.length := by omega
                  have HE4 := Lib.hid (show cutE x3.n f t = 0 by rw [H3.out.1]; simp [cutE, HLK.out.1])
                  have h4 := cut_off_parts H3.out.1 HLK.out.1
                  have h4q : WI (k + 97 + 96) (x3.cut f t false) := H3.out.2.2.2.cut _ _ _
                  have H4 := Lib.hid (And.intro h4.1 (And.intro h4.2.1 (And.intro (show (x3.cut f t false).out f t = false by rw [h4.2.2]; exact set_same) h4q)))
                  have HO4 := Lib.hid (show (x3.cut f t false).outB f t = false from out_parts H4.out.1 HLK.out.1 H4.out.2.2.1)
                  have HL4 := Lib.hid (show (((x3.cut f t false).ls.length : Nat) : Int) = (x3.ls.length : Int) by rw [H4.out.2.1])
                  clear h4 h4q
                  by_cases h96 : 96 ≤ x3.ls.length
                  · have h962 : (96 : Int) ≤ (x3.ls.length : Int) := by omega
                    clear h96
                    go_wp2_with (first
                      | (go_at_call 17; (with_reducible refine (HW.out.waits _ rfl).mono ?_); rintro e1 w1 ⟨rfl, hw1⟩; obtain rfl := hw1.symm)
                      | (go_at_call 15; (with_reducible refine (HW.out.cut H3.out.2.2.2 (by omega) f t false 0 HE4.out).mono ?_); rintro e1 w6 ⟨rfl, u6, hp6⟩; have HC6 := Lib.hid hp6; clear hp6)
                      | (go_at_call 19; (with_reducible refine (HC6.out.out H4.out.2.2.2 f t false HO4.out).mono ?_); rintro e1 w1 ⟨rfl, hw1⟩; obtain rfl := hw1.symm)
                      | (go_at_call 17; (with_reducible refine (HC6.out.waits _ HL4.out).mono ?_); rintro e1 w1 ⟨rfl, hw1⟩; obtain rfl := hw1.symm))
                    go_ret
                    exact ⟨rfl, HC6.out.b⟩
                  · have h962 : ¬ (96 : Int) ≤ (x3.ls.length : Int) := by omega
                    have HS4 := Lib.hid (show (x3.cut f t false).sendE ⟨f, t, ⟨#[]⟩⟩ = 0 from send_ok_E H4.out.1 HLK.out.1 H4.out.2.2.1 (by rw [H4.out.2.1]; exact h96))
                    clear h96
                    go_wp2_with (first
                      | (go_at_call 17; (with_reducible refine (HW.out.waits _ rfl).mono ?_); rintro e1 w1 ⟨rfl, hw1⟩; obtain rfl := hw1.symm)
                      | (go_at_call 15; (with_reducible refine (HW.out.cut H3.out.2.2.2 (by omega) f t false 0 HE4.out).mono ?_); rintro e1 w6 ⟨rfl, u6, hp6⟩; have HC6 := Lib.hid hp6; clear hp6)
                      | (go_at_call 19; (with_reducible refine (HC6.out.out H4.out.2.2.2 f t false HO4.out).mono ?_); rintro e1 w1 ⟨rfl, hw1⟩; obtain rfl := hw1.symm)
                      | (go_at_call 17; (with_reducible refine (HC6.out.waits _ HL4.out).mono ?_); rintro e1 w1 ⟨rfl, hw1⟩; obtain rfl := hw1.symm)
                      | (go_at_call 8; (with_reducible refine (HC6.out.send H4.out.2.2.2 (by omega) f t ⟨#[]⟩ 0 HS4.out).mono ?_); rintro e1 w7 ⟨rfl, u7, hp7⟩; have HS7 := Lib.hid hp7; clear hp7))
                    go_ret
                    exact ⟨rfl, HS7.out.b⟩
end Go.Proofs.Ytppjjbhbbnnpgaa
