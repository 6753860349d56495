/- WanDoes' own function returns true, whatever acts come. Condition: the list of acts lies whole in memory. -/
import Derived.Test.YtppjjbhbbnnpgaaDw
namespace Go.Proofs.Ytppjjbhbbnnpgaa
open Go.RowKit G
set_option linter.unusedVariables false
set_option linter.unusedSimpArgs false
attribute [local go_sem] upon_value upon_skip upon_enter runAt_run
/-- A region that reads, and whose calls make new memory alone. -/
structure Bl (W : World) (σ : St) (w : World) : Prop where
  b : Below W.heap.size W w
theorem Bl.start (W : World) : Bl W (fun _ => none) W.drew := ⟨below_drewN (Below.refl _ _) 1⟩
theorem Bl.upd {W w : World} {σ : St} {k : Nat} {v : Value} (h : Bl W σ w) : Bl W (σ.upd k v) w := ⟨h.b⟩
theorem Bl.call {W w w' : World} {σ : St} {k : Nat} {v : Value} (h : Bl W σ w) (hb : Below w.heap.size w w') : Bl W (σ.upd k v) w' := ⟨below_of h.b hb⟩
theorem atL_at {ls : List Lt} {k : Nat} {y : Lt} (h : ls[k]? = some y) : atL ls k = y ∧ atE ls k = 0 := by
  have hlt := (List.getElem?_eq_some_iff.1 h).1
  unfold atL atE
  rw [if_pos ⟨by omega, by omega⟩, if_pos ⟨by omega, by omega⟩]
  simp [h]
section
variable {W w w' : World} {P Q m B : Nat} {v u : Value} {x y : Wn} {bx : Array Value}
theorem DW.takeB (h : DW W w P v Q u x y) (q : WI m x) (hb : Row w B bx 31) (h1 : B ∉ wfp P v) (i f t : Int) (s : ByteArray) (e : Int) (hy : atL x.ls i = ⟨f, t, s⟩) (he : atE x.ls i = e) : Calls Try.prog 10 #[ptr P, .int .i64 i] w fun r w' => r = .returned (.tuple #[.agg #[.int .i64 f, .int .i64 t, .string s], .int .i64 e]) ∧ ∃ v, DW W w' P v Q u (x.take i) y ∧ Row w' B bx 31 ∧ B ∉ wfp P v :=
  (take_any h.p (by have := q.l; omega) i).mono fun _ _ ⟨k1, z, hp, st⟩ => ⟨by rw [k1, hy, he], z, h.stepP hp st, hb.kept st.keep h1, fun hm => (st.new _ hm).elim h1 (fun hh => by have := hb.lt; omega)⟩
theorem DW.rtakeB (h : DW W w P v Q u x y) (q : WI m y) (hb : Row w B bx 31) (h1 : B ∉ wfp Q u) {C : Nat} {cx : Array Value} (hc : Row w C cx 34) (h2 : C ∉ wfp Q u) (i f t : Int) (s : ByteArray) (e : Int) (hy : atL y.ls i = ⟨f, t, s⟩) (he : atE y.ls i = e) : Calls Try.prog 11 #[ptr Q, .int .i64 i] w fun r w' => r = .returned (.tuple #[.agg #[.int .i64 f, .int .i64 t, .string s], .int .i64 e]) ∧ ∃ u, DW W w' P v Q u x (y.take i) ∧ Row w' B bx 31 ∧ B ∉ wfp Q u ∧ Row w' C cx 34 :=
  (rtake_any h.r (by have := q.l; omega) i).mono fun _ _ ⟨k1, z, hp, st⟩ => ⟨by rw [k1, hy, he], z, h.stepR hp st, hb.kept st.keep h1, fun hm => (st.new _ hm).elim h1 (fun hh => by have := hb.lt; omega), hc.kept st.keep h2⟩
theorem DW.atb (h : DW W w P v Q u x y) (q : WI m x) (i f t : Int) (s : ByteArray) (e : Int) (hy : atL x.ls i = ⟨f, t, s⟩) (he : atE x.ls i = e) : Calls Try.prog 21 #[ptr P, .int .i64 i] w fun r w' => r = .returned (.tuple #[.agg #[.int .i64 f, .int .i64 t, .string s], .int .i64 e]) ∧ Below w.heap.size w w' :=
  (at_any h.p (by have := q.l; omega) i).mono fun _ _ ⟨h1, hb⟩ => ⟨by rw [h1, hy, he], hb⟩
theorem DW.ratb (h : DW W w P v Q u x y) (q : WI m y) (i f t : Int) (s : ByteArray) (e : Int) (hy : atL y.ls i = ⟨f, t, s⟩) (he : atE y.ls i = e) : Calls Try.prog 22 #[ptr Q, .int .i64 i] w fun r w' => r = .returned (.tuple #[.agg #[.int .i64 f, .int .i64 t, .string s], .int .i64 e]) ∧ Below w.heap.size w w' :=
  (rat_any h.r (by have := q.l; omega) i).mono fun _ _ ⟨h1, hb⟩ => ⟨by rw [h1, hy, he], hb⟩
theorem DW.waits (h : DW W w P v Q u x y) (k : Int) (hk : (x.ls.length : Int) = k) : Calls Try.prog 17 #[.pointer (some ⟨P, 0, none⟩)] w fun r w' => r = .returned (.int .i64 k) ∧ w' = w := by
  obtain ⟨p, c, hv⟩ := h.p.s.len
  subst hk
  exact waits_any (by rw [← hv]; exact h.p.c1)
theorem DW.lost (h : DW W w P v Q u x y) (k : Int) (hk : x.lost = k) : Calls Try.prog 18 #[.pointer (some ⟨P, 0, none⟩)] w fun r w' => r = .returned (.int .i64 k) ∧ w' = w := by
  subst hk
  exact lost_any h.p.cl
theorem DW.out (h : DW W w P v Q u x y) (q : WI m x) (a b : Int) (o : Bool) (ho : x.outB a b = o) : Calls Try.prog 19 #[.pointer (some ⟨P, 0, none⟩), .int .i64 a, .int .i64 b] w fun r w' => r = .returned (.bool o) ∧ w' = w := by
  subst ho
  exact out_any h.p q.n a b
theorem DW.rout (h : DW W w P v Q u x y) (q : WI m y) (a b : Int) (o : Bool) (ho : y.outB a b = o) : Calls Try.prog 20 #[.pointer (some ⟨Q, 0, none⟩), .int .i64 a, .int .i64 b] w fun r w' => r = .returned (.bool o) ∧ w' = w := by
  subst ho
  exact rout_any h.r q.n a b
end
theorem Bl.skips {W : World} {k : Nat} : skips (Bl W) k := fun σ w _ h => ⟨h.b⟩
set_option maxHeartbeats 16000000 in
set_option maxRecDepth 100000 in
theorem wdoes_any (n : Int) (sa : Option Addr) (len cap : Nat) (ops : Nat → Opn) (w : World) (hg : OIn w sa len ops) :
    Calls Try.prog 3 #[.int .i64 n, .slice sa len cap] w fun e w' => e = .returned (.bool true) ∧ Below w.heap.size w w' := by
  have hml := hg.1
  unfold maxLen at hml
  have HG := Lib.hid hg
  clear hg
  by_cases hn : n < 2 ∨ 16 < n
  · have HN := Lib.hid hn
    clear hn
    go_enter Try.func3, Try.ntmps3
    go_wp2_with (first | (go_at_call 6; (with_reducible refine (new_no _ _ HN.out).mono ?_); rintro e w' ⟨rfl, hw⟩; obtain rfl := hw.symm) | (go_at_call 7; (with_reducible refine (rnew_no _ _ HN.out).mono ?_); rintro e w' ⟨rfl, hw⟩; obtain rfl := hw.symm))
    go_ret
    exact ⟨rfl, Below.refl _ _⟩
  have hn2 : 2 ≤ n ∧ n ≤ 16 := by omega
  have HN := Lib.hid hn2
  clear hn hn2
  go_enter Try.func3, Try.ntmps3
  go_upto_region 5 with (first
    | (go_at_call 6; (with_reducible refine (new_yes n _ HN.out.1 HN.out.2).mono ?_); rintro e w1 ⟨P, rfl, hp1, hb1, hf1⟩; have HB1 := Lib.hid (And.intro hp1 (And.intro hb1 hf1)); clear hp1 hb1 hf1)
    | (go_at_call 7; (with_reducible refine (rnew_yes n _ HN.out.1 HN.out.2).mono ?_); rintro e w2 ⟨Q, rfl, hp2, hb2, hf2⟩; have HB2 := Lib.hid (And.intro hp2 (And.intro hb2 hf2)); clear hp2 hb2 hf2))
  have hDW : DW w w2 P (.slice none 0 0) Q (.slice none 0 0) (Wn.new n) (Wn.new n) :=
    ⟨HB1.out.1.below HB2.out.2.1, HB2.out.1, below_of HB1.out.2.1 HB2.out.2.1, fun c hc => by simp [wfp, own_none] at hc; subst hc; exact HB1.out.2.2, fun c hc => by simp [wfp, own_none] at hc; subst hc; exact Nat.le_trans HB1.out.2.1.size HB2.out.2.2, fun c hc hm => by
      simp [wfp, own_none] at hc hm
      have := HB1.out.1.lt
      have := HB2.out.2.2
      omega⟩
  have hWI : WI (100 * 0) (Wn.new n) := WI.new HN.out.2
  clear HB1 HB2 HN
  go_wp2
  go_loopw [9] (fun i wr => ∃ k : Nat, k ≤ len ∧ k ≤ 200 ∧ i = .int .i64 k ∧ ∃ v u x, DW w wr P v Q u x x ∧ WI (100 * k) x) (fun i _ => 200 - (intOf i).toNat)
  case atStart => exact ⟨0, Nat.zero_le _, Nat.zero_le _, rfl, _, _, _, hDW, hWI⟩
  case round =>
    obtain ⟨k, hk, hk2, rfl, v, u, x, hp, hq⟩ := hrel
    clear hDW hWI
    by_cases hin : k < len ∧ k < 200
    · obtain ⟨hlt, h200⟩ := hin
      obtain ⟨b0, o0, rfl, hbl, hz⟩ := HG.out.at hlt
      obtain ⟨z0, z1, z2, z3, z4, z5⟩ := hz _ hp.b
      have hd200 : decide ((k : Int) < 200) = true := by simp; omega
      have hl1 : (k : Int) < (len : Int) := by omega
      have HS := Lib.hid (HG.out.2.2 k hlt)
      generalize ops k = op at z0 z1 z2 z3 z4 z5 HS
      obtain ⟨K, of, ot, os, oi, oo⟩ := op
      simp only at z0 z1 z2 z3 z4 z5
      have HP0 := Lib.hid hp
      have HQ := Lib.hid hq
      clear hz hp hq
      go_upto_region 9 with (fail)
      have HP := Lib.hid (HP0.out.below (below_new wr (.cells #[.int .i64 K, .int .i64 of, .int .i64 ot, .string os, .int .i64 oi, .bool oo] 31)))
      have HBX := Lib.hid (And.intro (Row.new wr #[.int .i64 K, .int .i64 of, .int .i64 ot, .string os, .int .i64 oi, .bool oo] 31) (And.intro (show wr.heap.size ∉ wfp P v from fun hm => absurd (HP0.out.p.lts _ hm) (Nat.lt_irrefl _)) (show wr.heap.size ∉ wfp Q u from fun hm => absurd (HP0.out.r.lts _ hm) (Nat.lt_irrefl _))))
      generalize wr.alloc (.cells #[.int .i64 K, .int .i64 of, .int .i64 ot, .string os, .int .i64 oi, .bool oo] 31) = wc at HP HBX ⊢
      generalize wr.heap.size = B at HBX ⊢
      have x0 : wc.cell? ⟨B, 0, none⟩ = some (.int .i64 K) := HBX.out.1.cell 0 _ rfl
      have x1 : wc.cell? ⟨B, 1, none⟩ = some (.int .i64 of) := HBX.out.1.cell 1 _ rfl
      have x2 : wc.cell? ⟨B, 2, none⟩ = some (.int .i64 ot) := HBX.out.1.cell 2 _ rfl
      have x3 : wc.cell? ⟨B, 3, none⟩ = some (.string os) := HBX.out.1.cell 3 _ rfl
      have x4 : wc.cell? ⟨B, 4, none⟩ = some (.int .i64 oi) := HBX.out.1.cell 4 _ rfl
      have x5 : wc.cell? ⟨B, 5, none⟩ = some (.bool oo) := HBX.out.1.cell 5 _ rfl
      clear z0 z1 z2 z3 z4 z5 HP0
      by_cases h8 : 10000 < os.size
      · have h82 : (10000 : Int) < (os.size : Int) := by omega
        clear h8
        go_wp2
        go_ret
        exact ⟨rfl, HP.out.b⟩
      · have h82 : ¬ (10000 : Int) < (os.size : Int) := by omega
        clear h8
        by_cases k0 : K = 0
        · as_aux_lemma =>
          subst k0
          obtain ⟨ce, hce⟩ : ∃ z, x.sendE ⟨of, ot, os⟩ = z := ⟨_, rfl⟩
          have HCE := Lib.hid hce
          clear hce
          go_upto_region 15 with (fail)
          refine region_gen (D1 w P Q x (x.send ⟨of, ot, os⟩) x (x.send ⟨of, ot, os⟩) 8 17 B #[.int .i64 0, .int .i64 of, .int .i64 ot, .string os, .int .i64 oi, .bool oo]) (by kernel_rfl) (by kernel_rfl) (D1.start HP.out HBX.out.1 HBX.out.2.1 HBX.out.2.2) ?_
          repeat
            (refine step_gen (by decide) (by rfl) (fun K_ hK => ?_)
             go_simp
             first
               | (with_reducible apply H1.one
                  · intro σ wv hk hd hv
                    have z1 : wv.cell? ⟨B, 1, none⟩ = some (.int .i64 of) := hv.b.cell 1 _ rfl
                    have z2 : wv.cell? ⟨B, 2, none⟩ = some (.int .i64 ot) := hv.b.cell 2 _ rfl
                    have z3 : wv.cell? ⟨B, 3, none⟩ = some (.string os) := hv.b.cell 3 _ rfl
                    have z4 : wv.cell? ⟨B, 4, none⟩ = some (.int .i64 oi) := hv.b.cell 4 _ rfl
                    have z5 : wv.cell? ⟨B, 5, none⟩ = some (.bool oo) := hv.b.cell 5 _ rfl
                    have Hv := Lib.hid hv
                    clear hv
                    go_simp
                    (first
                        | (with_reducible refine ⟨rfl, ?_⟩; exact D1.pure Hv.out (by decide) (by decide))
                        | (obtain ⟨v1, hp1, hnext⟩ := Hv.out.stepP hk (by decide)
                           refine (send_c hp1 HQ.out (by omega) of ot os _ HCE.out).mono ?_
                           rintro e2 w2 ⟨rfl, u2, hp2, st2⟩
                           exact ⟨_, rfl, rfl, hnext _ _ _ hp2 st2⟩)
                        | (obtain ⟨v1, hp1, hnext⟩ := Hv.out.stepR hk (by decide)
                           refine (rsend_c hp1 HQ.out (by omega) of ot os _ HCE.out).mono ?_
                           rintro e2 w2 ⟨rfl, u2, hp2, st2⟩
                           exact ⟨_, rfl, rfl, hnext _ _ _ hp2 st2⟩))
                  refine hK _ _ _ ?_
                  clear hK K_))
          refine nil_gen ?_
          intro σ w9 hall ht hv
          obtain ⟨v9, u9, hp2, hn1, hn2⟩ := hv.e
          simp only [hall 8 (by decide), hall 17 (by decide), if_true] at hp2
          have hb9 := hv.b
          clear hv hall ht σ
          have HP2 := Lib.hid hp2
          have HB2 := Lib.hid (And.intro hb9 (And.intro hn1 hn2))
          clear hp2 hb9 hn1 hn2 HP HBX x0 x1 x2 x3 x4 x5
          have HWI := Lib.hid (show WI (100 * (k + 1)) (x.send ⟨of, ot, os⟩) from (HQ.out.send _).more (by omega))
          generalize x.send ⟨of, ot, os⟩ = x2 at HP2 HWI
          go_upto_region 25 with (fail)
          obtain ⟨wl, hwl⟩ : ∃ z, (x2.ls.length : Int) = z := ⟨_, rfl⟩
          obtain ⟨lo, hlo⟩ : ∃ z, x2.lost = z := ⟨_, rfl⟩
          obtain ⟨oo2, hoo⟩ : ∃ z, x2.outB of ot = z := ⟨_, rfl⟩
          obtain ⟨pa, ca, hvv⟩ := HP2.out.r.s.len
          have c1 : w9.cell? ⟨Q, 1, none⟩ = some (.slice pa x2.ls.length ca) := by rw [← hvv]; exact HP2.out.r.c1
          have cl : w9.cell? ⟨Q, 258, none⟩ = some (.int .i64 lo) := by rw [← hlo]; exact HP2.out.r.cl
          have x1 : w9.cell? ⟨B, 1, none⟩ = some (.int .i64 of) := HB2.out.1.cell 1 _ rfl
          have x2c : w9.cell? ⟨B, 2, none⟩ = some (.int .i64 ot) := HB2.out.1.cell 2 _ rfl
          have HVAL := Lib.hid (And.intro hwl (And.intro hlo hoo))
          clear hlo hoo hvv
          refine region_gen (Rd w9) (by kernel_rfl) (by kernel_rfl) (Rd.start _) ?_
          repeat
            (refine step_gen (by decide) (by rfl) (fun K_ hK => ?_)
             go_simp
             first
               | (with_reducible refine Sk.of Rd.skips ?_
                  refine hK _ _ _ ?_
                  clear hK K_)
               | (with_reducible apply H1.one
                  · intro σ wv hk hd hv
                    obtain ⟨⟨m_, rfl⟩⟩ := hv
                    go_simp
                    (first
                      | (with_reducible refine ⟨rfl, ?_⟩; exact ⟨m_, rfl⟩)
                      | (refine ((HP2.out.drewN m_).waits _ HVAL.out.1).mono ?_; rintro e w' ⟨rfl, hw⟩; subst hw; exact ⟨_, rfl, rfl, ⟨m_, rfl⟩⟩)
                      | (refine ((HP2.out.drewN m_).lost _ HVAL.out.2.1).mono ?_; rintro e w' ⟨rfl, hw⟩; subst hw; exact ⟨_, rfl, rfl, ⟨m_, rfl⟩⟩)
                      | (refine ((HP2.out.drewN m_).out HWI.out of ot _ HVAL.out.2.2).mono ?_; rintro e w' ⟨rfl, hw⟩; subst hw; exact ⟨_, rfl, rfl, ⟨m_, rfl⟩⟩)
                      | (refine ((HP2.out.drewN m_).rout HWI.out of ot _ HVAL.out.2.2).mono ?_; rintro e w' ⟨rfl, hw⟩; subst hw; exact ⟨_, rfl, rfl, ⟨m_, rfl⟩⟩))
                  refine hK _ _ _ ?_
                  clear hK K_))
          refine nil_gen ?_
          rintro σ wv - - ⟨⟨nq, rfl⟩⟩
          clear σ
          have HP3 := Lib.hid (HP2.out.drewN nq)
          have HB3 := Lib.hid (HB2.out.1.drewN nq)
          clear HP2 HB2 c1 cl x1 x2c HVAL hwl
          generalize w9.drewN nq = w10 at HP3 HB3 ⊢
          obtain ⟨lf, lt, lsx, hL⟩ : ∃ f t s, atL x2.ls oi = ⟨f, t, s⟩ := ⟨_, _, _, rfl⟩
          obtain ⟨le, hE⟩ : ∃ e, atE x2.ls oi = e := ⟨_, rfl⟩
          have HLE := Lib.hid (And.intro hL hE)
          clear hL hE
          have x4 : w10.cell? ⟨B, 4, none⟩ = some (.int .i64 oi) := HB3.out.cell 4 _ rfl
          go_upto_region 28 with (go_at_call 21; (with_reducible refine (HP3.out.atb HWI.out oi lf lt lsx le HLE.out.1 HLE.out.2).mono ?_); rintro e' w11 ⟨rfl, hb11⟩)
          have HP4 := Lib.hid ((HP3.out.below hb11).below (below_new w11 (.cells #[.int .i64 lf, .int .i64 lt, .string lsx] 34)))
          have HB4 := Lib.hid ((HB3.out.below hb11).below (below_new w11 (.cells #[.int .i64 lf, .int .i64 lt, .string lsx] 34)))
          have HR0 := Lib.hid (Row.new w11 #[.int .i64 lf, .int .i64 lt, .string lsx] 34)
          clear hb11 HP3 HB3 x4
          generalize w11.alloc (.cells #[.int .i64 lf, .int .i64 lt, .string lsx] 34) = w12 at HP4 HB4 HR0 ⊢
          generalize w11.heap.size = B1 at HR0 ⊢
          have x4 : w12.cell? ⟨B, 4, none⟩ = some (.int .i64 oi) := HB4.out.cell 4 _ rfl
          go_upto_region 29 with (go_at_call 22; (with_reducible refine (HP4.out.ratb HWI.out oi lf lt lsx le HLE.out.1 HLE.out.2).mono ?_); rintro e' w13 ⟨rfl, hb13⟩)
          have HP5 := Lib.hid ((HP4.out.below hb13).below (below_new w13 (.cells #[.int .i64 lf, .int .i64 lt, .string lsx] 36)))
          have HR1 := Lib.hid ((HR0.out.below hb13).below (below_new w13 (.cells #[.int .i64 lf, .int .i64 lt, .string lsx] 36)))
          have HR2 := Lib.hid (Row.new w13 #[.int .i64 lf, .int .i64 lt, .string lsx] 36)
          clear hb13 HP4 HB4 HR0 x4
          generalize w13.alloc (.cells #[.int .i64 lf, .int .i64 lt, .string lsx] 36) = w14 at HP5 HR1 HR2 ⊢
          generalize w13.heap.size = B2 at HR2 ⊢
          refine region_gen (Bl w14) (by kernel_rfl) (by kernel_rfl) (Bl.start _) ?_
          repeat
            (refine step_gen (by decide) (by rfl) (fun K_ hK => ?_)
             go_simp
             first
               | (with_reducible refine Sk.of Bl.skips ?_
                  refine hK _ _ _ ?_
                  clear hK K_)
               | (with_reducible apply H1.one
                  · intro σ wv hk hd hv
                    have r1 := HR1.out.below hv.b
                    have r2 := HR2.out.below hv.b
                    have z0 : wv.cell? ⟨B1, 0, none⟩ = some (.int .i64 lf) := r1.cell 0 _ rfl
                    have z1 : wv.cell? ⟨B1, 1, none⟩ = some (.int .i64 lt) := r1.cell 1 _ rfl
                    have z2 : wv.cell? ⟨B1, 2, none⟩ = some (.string lsx) := r1.cell 2 _ rfl
                    have y0 : wv.cell? ⟨B2, 0, none⟩ = some (.int .i64 lf) := r2.cell 0 _ rfl
                    have y1 : wv.cell? ⟨B2, 1, none⟩ = some (.int .i64 lt) := r2.cell 1 _ rfl
                    have y2 : wv.cell? ⟨B2, 2, none⟩ = some (.string lsx) := r2.cell 2 _ rfl
                    have Hv := Lib.hid hv
                    clear hv r1 r2
                    go_simp
                    (first
                        | (with_reducible refine ⟨rfl, ?_⟩; exact Bl.upd Hv.out)
                        | (refine (fromL_any lf lt lsx wv).mono ?_
                           rintro e2 w2 ⟨rfl, hb2⟩
                           exact ⟨_, rfl, rfl, Bl.call Hv.out hb2⟩))
                  refine hK _ _ _ ?_
                  clear hK K_))
          refine nil_gen ?_
          intro σ w15 hall ht hv
          have HBL := Lib.hid hv.b
          clear hv hall ht σ
          have HP6 := Lib.hid (HP5.out.below HBL.out)
          clear HP5 HR1 HR2 HBL
          go_wp2
          go_roundw
          case rel => exact ⟨k + 1, by omega, by omega, by go_num, _, _, x2, HP6.out, HWI.out⟩
          case measure => simp [intOf]; omega
        by_cases k2 : K = 2
        · as_aux_lemma =>
          subst k2
          obtain ⟨ce, hce⟩ : ∃ z, x.dblE oi = z := ⟨_, rfl⟩
          have HCE := Lib.hid hce
          clear hce
          go_upto_region 23 with (fail)
          refine region_gen (D1 w P Q x (x.dbl oi) x (x.dbl oi) 3 7 B #[.int .i64 2, .int .i64 of, .int .i64 ot, .string os, .int .i64 oi, .bool oo]) (by kernel_rfl) (by kernel_rfl) (D1.start HP.out HBX.out.1 HBX.out.2.1 HBX.out.2.2) ?_
          repeat
            (refine step_gen (by decide) (by rfl) (fun K_ hK => ?_)
             go_simp
             first
               | (with_reducible apply H1.one
                  · intro σ wv hk hd hv
                    have z1 : wv.cell? ⟨B, 1, none⟩ = some (.int .i64 of) := hv.b.cell 1 _ rfl
                    have z2 : wv.cell? ⟨B, 2, none⟩ = some (.int .i64 ot) := hv.b.cell 2 _ rfl
                    have z3 : wv.cell? ⟨B, 3, none⟩ = some (.string os) := hv.b.cell 3 _ rfl
                    have z4 : wv.cell? ⟨B, 4, none⟩ = some (.int .i64 oi) := hv.b.cell 4 _ rfl
                    have z5 : wv.cell? ⟨B, 5, none⟩ = some (.bool oo) := hv.b.cell 5 _ rfl
                    have Hv := Lib.hid hv
                    clear hv
                    go_simp
                    (first
                        | (with_reducible refine ⟨rfl, ?_⟩; exact D1.pure Hv.out (by decide) (by decide))
                        | (obtain ⟨v1, hp1, hnext⟩ := Hv.out.stepP hk (by decide)
                           refine (dbl_c hp1 HQ.out oi _ HCE.out).mono ?_
                           rintro e2 w2 ⟨rfl, u2, hp2, st2⟩
                           exact ⟨_, rfl, rfl, hnext _ _ _ hp2 st2⟩)
                        | (obtain ⟨v1, hp1, hnext⟩ := Hv.out.stepR hk (by decide)
                           refine (rdbl_c hp1 HQ.out oi _ HCE.out).mono ?_
                           rintro e2 w2 ⟨rfl, u2, hp2, st2⟩
                           exact ⟨_, rfl, rfl, hnext _ _ _ hp2 st2⟩))
                  refine hK _ _ _ ?_
                  clear hK K_))
          refine nil_gen ?_
          intro σ w9 hall ht hv
          obtain ⟨v9, u9, hp2, hn1, hn2⟩ := hv.e
          simp only [hall 3 (by decide), hall 7 (by decide), if_true] at hp2
          have hb9 := hv.b
          clear hv hall ht σ
          have HP2 := Lib.hid hp2
          have HB2 := Lib.hid (And.intro hb9 (And.intro hn1 hn2))
          clear hp2 hb9 hn1 hn2 HP HBX x0 x1 x2 x3 x4 x5
          have HWI := Lib.hid (show WI (100 * (k + 1)) (x.dbl oi) from (HQ.out.dbl _).more (by omega))
          generalize x.dbl oi = x2 at HP2 HWI
          go_upto_region 25 with (fail)
          obtain ⟨wl, hwl⟩ : ∃ z, (x2.ls.length : Int) = z := ⟨_, rfl⟩
          obtain ⟨lo, hlo⟩ : ∃ z, x2.lost = z := ⟨_, rfl⟩
          obtain ⟨oo2, hoo⟩ : ∃ z, x2.outB of ot = z := ⟨_, rfl⟩
          obtain ⟨pa, ca, hvv⟩ := HP2.out.r.s.len
          have c1 : w9.cell? ⟨Q, 1, none⟩ = some (.slice pa x2.ls.length ca) := by rw [← hvv]; exact HP2.out.r.c1
          have cl : w9.cell? ⟨Q, 258, none⟩ = some (.int .i64 lo) := by rw [← hlo]; exact HP2.out.r.cl
          have x1 : w9.cell? ⟨B, 1, none⟩ = some (.int .i64 of) := HB2.out.1.cell 1 _ rfl
          have x2c : w9.cell? ⟨B, 2, none⟩ = some (.int .i64 ot) := HB2.out.1.cell 2 _ rfl
          have HVAL := Lib.hid (And.intro hwl (And.intro hlo hoo))
          clear hlo hoo hvv
          refine region_gen (Rd w9) (by kernel_rfl) (by kernel_rfl) (Rd.start _) ?_
          repeat
            (refine step_gen (by decide) (by rfl) (fun K_ hK => ?_)
             go_simp
             first
               | (with_reducible refine Sk.of Rd.skips ?_
                  refine hK _ _ _ ?_
                  clear hK K_)
               | (with_reducible apply H1.one
                  · intro σ wv hk hd hv
                    obtain ⟨⟨m_, rfl⟩⟩ := hv
                    go_simp
                    (first
                      | (with_reducible refine ⟨rfl, ?_⟩; exact ⟨m_, rfl⟩)
                      | (refine ((HP2.out.drewN m_).waits _ HVAL.out.1).mono ?_; rintro e w' ⟨rfl, hw⟩; subst hw; exact ⟨_, rfl, rfl, ⟨m_, rfl⟩⟩)
                      | (refine ((HP2.out.drewN m_).lost _ HVAL.out.2.1).mono ?_; rintro e w' ⟨rfl, hw⟩; subst hw; exact ⟨_, rfl, rfl, ⟨m_, rfl⟩⟩)
                      | (refine ((HP2.out.drewN m_).out HWI.out of ot _ HVAL.out.2.2).mono ?_; rintro e w' ⟨rfl, hw⟩; subst hw; exact ⟨_, rfl, rfl, ⟨m_, rfl⟩⟩)
                      | (refine ((HP2.out.drewN m_).rout HWI.out of ot _ HVAL.out.2.2).mono ?_; rintro e w' ⟨rfl, hw⟩; subst hw; exact ⟨_, rfl, rfl, ⟨m_, rfl⟩⟩))
                  refine hK _ _ _ ?_
                  clear hK K_))
          refine nil_gen ?_
          rintro σ wv - - ⟨⟨nq, rfl⟩⟩
          clear σ
          have HP3 := Lib.hid (HP2.out.drewN nq)
          have HB3 := Lib.hid (HB2.out.1.drewN nq)
          clear HP2 HB2 c1 cl x1 x2c HVAL hwl
          generalize w9.drewN nq = w10 at HP3 HB3 ⊢
          obtain ⟨lf, lt, lsx, hL⟩ : ∃ f t s, atL x2.ls oi = ⟨f, t, s⟩ := ⟨_, _, _, rfl⟩
          obtain ⟨le, hE⟩ : ∃ e, atE x2.ls oi = e := ⟨_, rfl⟩
          have HLE := Lib.hid (And.intro hL hE)
          clear hL hE
          have x4 : w10.cell? ⟨B, 4, none⟩ = some (.int .i64 oi) := HB3.out.cell 4 _ rfl
          go_upto_region 28 with (go_at_call 21; (with_reducible refine (HP3.out.atb HWI.out oi lf lt lsx le HLE.out.1 HLE.out.2).mono ?_); rintro e' w11 ⟨rfl, hb11⟩)
          have HP4 := Lib.hid ((HP3.out.below hb11).below (below_new w11 (.cells #[.int .i64 lf, .int .i64 lt, .string lsx] 34)))
          have HB4 := Lib.hid ((HB3.out.below hb11).below (below_new w11 (.cells #[.int .i64 lf, .int .i64 lt, .string lsx] 34)))
          have HR0 := Lib.hid (Row.new w11 #[.int .i64 lf, .int .i64 lt, .string lsx] 34)
          clear hb11 HP3 HB3 x4
          generalize w11.alloc (.cells #[.int .i64 lf, .int .i64 lt, .string lsx] 34) = w12 at HP4 HB4 HR0 ⊢
          generalize w11.heap.size = B1 at HR0 ⊢
          have x4 : w12.cell? ⟨B, 4, none⟩ = some (.int .i64 oi) := HB4.out.cell 4 _ rfl
          go_upto_region 29 with (go_at_call 22; (with_reducible refine (HP4.out.ratb HWI.out oi lf lt lsx le HLE.out.1 HLE.out.2).mono ?_); rintro e' w13 ⟨rfl, hb13⟩)
          have HP5 := Lib.hid ((HP4.out.below hb13).below (below_new w13 (.cells #[.int .i64 lf, .int .i64 lt, .string lsx] 36)))
          have HR1 := Lib.hid ((HR0.out.below hb13).below (below_new w13 (.cells #[.int .i64 lf, .int .i64 lt, .string lsx] 36)))
          have HR2 := Lib.hid (Row.new w13 #[.int .i64 lf, .int .i64 lt, .string lsx] 36)
          clear hb13 HP4 HB4 HR0 x4
          generalize w13.alloc (.cells #[.int .i64 lf, .int .i64 lt, .string lsx] 36) = w14 at HP5 HR1 HR2 ⊢
          generalize w13.heap.size = B2 at HR2 ⊢
          refine region_gen (Bl w14) (by kernel_rfl) (by kernel_rfl) (Bl.start _) ?_
          repeat
            (refine step_gen (by decide) (by rfl) (fun K_ hK => ?_)
             go_simp
             first
               | (with_reducible refine Sk.of Bl.skips ?_
                  refine hK _ _ _ ?_
                  clear hK K_)
               | (with_reducible apply H1.one
                  · intro σ wv hk hd hv
                    have r1 := HR1.out.below hv.b
                    have r2 := HR2.out.below hv.b
                    have z0 : wv.cell? ⟨B1, 0, none⟩ = some (.int .i64 lf) := r1.cell 0 _ rfl
                    have z1 : wv.cell? ⟨B1, 1, none⟩ = some (.int .i64 lt) := r1.cell 1 _ rfl
                    have z2 : wv.cell? ⟨B1, 2, none⟩ = some (.string lsx) := r1.cell 2 _ rfl
                    have y0 : wv.cell? ⟨B2, 0, none⟩ = some (.int .i64 lf) := r2.cell 0 _ rfl
                    have y1 : wv.cell? ⟨B2, 1, none⟩ = some (.int .i64 lt) := r2.cell 1 _ rfl
                    have y2 : wv.cell? ⟨B2, 2, none⟩ = some (.string lsx) := r2.cell 2 _ rfl
                    have Hv := Lib.hid hv
                    clear hv r1 r2
                    go_simp
                    (first
                        | (with_reducible refine ⟨rfl, ?_⟩; exact Bl.upd Hv.out)
                        | (refine (fromL_any lf lt lsx wv).mono ?_
                           rintro e2 w2 ⟨rfl, hb2⟩
                           exact ⟨_, rfl, rfl, Bl.call Hv.out hb2⟩))
                  refine hK _ _ _ ?_
                  clear hK K_))
          refine nil_gen ?_
          intro σ w15 hall ht hv
          have HBL := Lib.hid hv.b
          clear hv hall ht σ
          have HP6 := Lib.hid (HP5.out.below HBL.out)
          clear HP5 HR1 HR2 HBL
          go_wp2
          go_roundw
          case rel => exact ⟨k + 1, by omega, by omega, by go_num, _, _, x2, HP6.out, HWI.out⟩
          case measure => simp [intOf]; omega
        by_cases k1 : K = 1
        · as_aux_lemma =>
          subst k1
          obtain ⟨lf, lt, lsx, hL⟩ : ∃ f t s, atL x.ls oi = ⟨f, t, s⟩ := ⟨_, _, _, rfl⟩
          obtain ⟨le, hE⟩ : ∃ e, atE x.ls oi = e := ⟨_, rfl⟩
          have HLE := Lib.hid (And.intro hL hE)
          clear hL hE
          go_upto_region 19 with (go_at_call 10; (with_reducible refine (HP.out.takeB HQ.out HBX.out.1 HBX.out.2.1 oi lf lt lsx le HLE.out.1 HLE.out.2).mono ?_); rintro e' w3 ⟨rfl, v3, hp3, hb3, hn3⟩)
          have HP3 := Lib.hid (hp3.below (below_new w3 (.cells #[.int .i64 lf, .int .i64 lt, .string lsx] 34)))
          have HB3 := Lib.hid (hb3.below (below_new w3 (.cells #[.int .i64 lf, .int .i64 lt, .string lsx] 34)))
          have HN3 := Lib.hid (And.intro hn3 (And.intro HBX.out.2.2 (show w3.heap.size ∉ wfp Q u from fun hm => absurd (hp3.r.lts _ hm) (Nat.lt_irrefl _))))
          have HR0 := Lib.hid (Row.new w3 #[.int .i64 lf, .int .i64 lt, .string lsx] 34)
          clear hp3 hb3 hn3 HP HBX x0 x1 x2 x3 x4 x5
          generalize w3.alloc (.cells #[.int .i64 lf, .int .i64 lt, .string lsx] 34) = w4 at HP3 HB3 HR0 ⊢
          generalize w3.heap.size = B1 at HR0 HN3 ⊢
          have x4 : w4.cell? ⟨B, 4, none⟩ = some (.int .i64 oi) := HB3.out.cell 4 _ rfl
          go_upto_region 20 with (go_at_call 11; (with_reducible refine (HP3.out.rtakeB HQ.out HB3.out HN3.out.2.1 HR0.out HN3.out.2.2 oi lf lt lsx le HLE.out.1 HLE.out.2).mono ?_); rintro e' w5 ⟨rfl, u5, hp5, hb5, hn5, hr5⟩)
          have HP5 := Lib.hid (hp5.below (below_new w5 (.cells #[.int .i64 lf, .int .i64 lt, .string lsx] 36)))
          have HB5 := Lib.hid (And.intro (hb5.below (below_new w5 (.cells #[.int .i64 lf, .int .i64 lt, .string lsx] 36))) (And.intro HN3.out.1 hn5))
          have HR1 := Lib.hid (hr5.below (below_new w5 (.cells #[.int .i64 lf, .int .i64 lt, .string lsx] 36)))
          have HR2 := Lib.hid (Row.new w5 #[.int .i64 lf, .int .i64 lt, .string lsx] 36)
          clear hp5 hb5 hn5 hr5 HP3 HB3 HR0 x4 HN3
          generalize w5.alloc (.cells #[.int .i64 lf, .int .i64 lt, .string lsx] 36) = w6 at HP5 HB5 HR1 HR2 ⊢
          generalize w5.heap.size = B2 at HR2 ⊢
          refine region_gen (Bl w6) (by kernel_rfl) (by kernel_rfl) (Bl.start _) ?_
          repeat
            (refine step_gen (by decide) (by rfl) (fun K_ hK => ?_)
             go_simp
             first
               | (with_reducible refine Sk.of Bl.skips ?_
                  refine hK _ _ _ ?_
                  clear hK K_)
               | (with_reducible apply H1.one
                  · intro σ wv hk hd hv
                    have r1 := HR1.out.below hv.b
                    have r2 := HR2.out.below hv.b
                    have z0 : wv.cell? ⟨B1, 0, none⟩ = some (.int .i64 lf) := r1.cell 0 _ rfl
                    have z1 : wv.cell? ⟨B1, 1, none⟩ = some (.int .i64 lt) := r1.cell 1 _ rfl
                    have z2 : wv.cell? ⟨B1, 2, none⟩ = some (.string lsx) := r1.cell 2 _ rfl
                    have y0 : wv.cell? ⟨B2, 0, none⟩ = some (.int .i64 lf) := r2.cell 0 _ rfl
                    have y1 : wv.cell? ⟨B2, 1, none⟩ = some (.int .i64 lt) := r2.cell 1 _ rfl
                    have y2 : wv.cell? ⟨B2, 2, none⟩ = some (.string lsx) := r2.cell 2 _ rfl
                    have Hv := Lib.hid hv
                    clear hv r1 r2
                    go_simp
                    (first
                        | (with_reducible refine ⟨rfl, ?_⟩; exact Bl.upd Hv.out)
                        | (refine (fromL_any lf lt lsx wv).mono ?_
                           rintro e2 w2 ⟨rfl, hb2⟩
                           exact ⟨_, rfl, rfl, Bl.call Hv.out hb2⟩))
                  refine hK _ _ _ ?_
                  clear hK K_))
          refine nil_gen ?_
          intro σ w9 hall ht hv
          have HBL := Lib.hid hv.b
          clear hv hall ht σ
          have HP2 := Lib.hid (HP5.out.below HBL.out)
          have HB2 := Lib.hid (And.intro (HB5.out.1.below HBL.out) (And.intro HB5.out.2.1 HB5.out.2.2))
          clear HP5 HB5 HR1 HR2 HBL HLE
          have HWI := Lib.hid (show WI (100 * (k + 1)) (x.take oi) from (HQ.out.take _).more (by omega))
          generalize x.take oi = x2 at HP2 HWI
          go_upto_region 25 with (fail)
          obtain ⟨wl, hwl⟩ : ∃ z, (x2.ls.length : Int) = z := ⟨_, rfl⟩
          obtain ⟨lo, hlo⟩ : ∃ z, x2.lost = z := ⟨_, rfl⟩
          obtain ⟨oo2, hoo⟩ : ∃ z, x2.outB of ot = z := ⟨_, rfl⟩
          obtain ⟨pa, ca, hvv⟩ := HP2.out.r.s.len
          have c1 : w9.cell? ⟨Q, 1, none⟩ = some (.slice pa x2.ls.length ca) := by rw [← hvv]; exact HP2.out.r.c1
          have cl : w9.cell? ⟨Q, 258, none⟩ = some (.int .i64 lo) := by rw [← hlo]; exact HP2.out.r.cl
          have x1 : w9.cell? ⟨B, 1, none⟩ = some (.int .i64 of) := HB2.out.1.cell 1 _ rfl
          have x2c : w9.cell? ⟨B, 2, none⟩ = some (.int .i64 ot) := HB2.out.1.cell 2 _ rfl
          have HVAL := Lib.hid (And.intro hwl (And.intro hlo hoo))
          clear hlo hoo hvv
          refine region_gen (Rd w9) (by kernel_rfl) (by kernel_rfl) (Rd.start _) ?_
          repeat
            (refine step_gen (by decide) (by rfl) (fun K_ hK => ?_)
             go_simp
             first
               | (with_reducible refine Sk.of Rd.skips ?_
                  refine hK _ _ _ ?_
                  clear hK K_)
               | (with_reducible apply H1.one
                  · intro σ wv hk hd hv
                    obtain ⟨⟨m_, rfl⟩⟩ := hv
                    go_simp
                    (first
                      | (with_reducible refine ⟨rfl, ?_⟩; exact ⟨m_, rfl⟩)
                      | (refine ((HP2.out.drewN m_).waits _ HVAL.out.1).mono ?_; rintro e w' ⟨rfl, hw⟩; subst hw; exact ⟨_, rfl, rfl, ⟨m_, rfl⟩⟩)
                      | (refine ((HP2.out.drewN m_).lost _ HVAL.out.2.1).mono ?_; rintro e w' ⟨rfl, hw⟩; subst hw; exact ⟨_, rfl, rfl, ⟨m_, rfl⟩⟩)
                      | (refine ((HP2.out.drewN m_).out HWI.out of ot _ HVAL.out.2.2).mono ?_; rintro e w' ⟨rfl, hw⟩; subst hw; exact ⟨_, rfl, rfl, ⟨m_, rfl⟩⟩)
                      | (refine ((HP2.out.drewN m_).rout HWI.out of ot _ HVAL.out.2.2).mono ?_; rintro e w' ⟨rfl, hw⟩; subst hw; exact ⟨_, rfl, rfl, ⟨m_, rfl⟩⟩))
                  refine hK _ _ _ ?_
                  clear hK K_))
          refine nil_gen ?_
          rintro σ wv - - ⟨⟨nq, rfl⟩⟩
          clear σ
          have HP3 := Lib.hid (HP2.out.drewN nq)
          have HB3 := Lib.hid (HB2.out.1.drewN nq)
          clear HP2 HB2 c1 cl x1 x2c HVAL hwl
          generalize w9.drewN nq = w10 at HP3 HB3 ⊢
          obtain ⟨lf, lt, lsx, hL⟩ : ∃ f t s, atL x2.ls oi = ⟨f, t, s⟩ := ⟨_, _, _, rfl⟩
          obtain ⟨le, hE⟩ : ∃ e, atE x2.ls oi = e := ⟨_, rfl⟩
          have HLE := Lib.hid (And.intro hL hE)
          clear hL hE
          have x4 : w10.cell? ⟨B, 4, none⟩ = some (.int .i64 oi) := HB3.out.cell 4 _ rfl
          go_upto_region 28 with (go_at_call 21; (with_reducible refine (HP3.out.atb HWI.out oi lf lt lsx le HLE.out.1 HLE.out.2).mono ?_); rintro e' w11 ⟨rfl, hb11⟩)
          have HP4 := Lib.hid ((HP3.out.below hb11).below (below_new w11 (.cells #[.int .i64 lf, .int .i64 lt, .string lsx] 34)))
          have HB4 := Lib.hid ((HB3.out.below hb11).below (below_new w11 (.cells #[.int .i64 lf, .int .i64 lt, .string lsx] 34)))
          have HR0 := Lib.hid (Row.new w11 #[.int .i64 lf, .int .i64 lt, .string lsx] 34)
          clear hb11 HP3 HB3 x4
          generalize w11.alloc (.cells #[.int .i64 lf, .int .i64 lt, .string lsx] 34) = w12 at HP4 HB4 HR0 ⊢
          generalize w11.heap.size = B1 at HR0 ⊢
          have x4 : w12.cell? ⟨B, 4, none⟩ = some (.int .i64 oi) := HB4.out.cell 4 _ rfl
          go_upto_region 29 with (go_at_call 22; (with_reducible refine (HP4.out.ratb HWI.out oi lf lt lsx le HLE.out.1 HLE.out.2).mono ?_); rintro e' w13 ⟨rfl, hb13⟩)
          have HP5 := Lib.hid ((HP4.out.below hb13).below (below_new w13 (.cells #[.int .i64 lf, .int .i64 lt, .string lsx] 36)))
          have HR1 := Lib.hid ((HR0.out.below hb13).below (below_new w13 (.cells #[.int .i64 lf, .int .i64 lt, .string lsx] 36)))
          have HR2 := Lib.hid (Row.new w13 #[.int .i64 lf, .int .i64 lt, .string lsx] 36)
          clear hb13 HP4 HB4 HR0 x4
          generalize w13.alloc (.cells #[.int .i64 lf, .int .i64 lt, .string lsx] 36) = w14 at HP5 HR1 HR2 ⊢
          generalize w13.heap.size = B2 at HR2 ⊢
          refine region_gen (Bl w14) (by kernel_rfl) (by kernel_rfl) (Bl.start _) ?_
          repeat
            (refine step_gen (by decide) (by rfl) (fun K_ hK => ?_)
             go_simp
             first
               | (with_reducible refine Sk.of Bl.skips ?_
                  refine hK _ _ _ ?_
                  clear hK K_)
               | (with_reducible apply H1.one
                  · intro σ wv hk hd hv
                    have r1 := HR1.out.below hv.b
                    have r2 := HR2.out.below hv.b
                    have z0 : wv.cell? ⟨B1, 0, none⟩ = some (.int .i64 lf) := r1.cell 0 _ rfl
                    have z1 : wv.cell? ⟨B1, 1, none⟩ = some (.int .i64 lt) := r1.cell 1 _ rfl
                    have z2 : wv.cell? ⟨B1, 2, none⟩ = some (.string lsx) := r1.cell 2 _ rfl
                    have y0 : wv.cell? ⟨B2, 0, none⟩ = some (.int .i64 lf) := r2.cell 0 _ rfl
                    have y1 : wv.cell? ⟨B2, 1, none⟩ = some (.int .i64 lt) := r2.cell 1 _ rfl
                    have y2 : wv.cell? ⟨B2, 2, none⟩ = some (.string lsx) := r2.cell 2 _ rfl
                    have Hv := Lib.hid hv
                    clear hv r1 r2
                    go_simp
                    (first
                        | (with_reducible refine ⟨rfl, ?_⟩; exact Bl.upd Hv.out)
                        | (refine (fromL_any lf lt lsx wv).mono ?_
                           rintro e2 w2 ⟨rfl, hb2⟩
                           exact ⟨_, rfl, rfl, Bl.call Hv.out hb2⟩))
                  refine hK _ _ _ ?_
                  clear hK K_))
          refine nil_gen ?_
          intro σ w15 hall ht hv
          have HBL := Lib.hid hv.b
          clear hv hall ht σ
          have HP6 := Lib.hid (HP5.out.below HBL.out)
          clear HP5 HR1 HR2 HBL
          go_wp2
          go_roundw
          case rel => exact ⟨k + 1, by omega, by omega, by go_num, _, _, x2, HP6.out, HWI.out⟩
          case measure => simp [intOf]; omega
        as_aux_lemma =>
          have q0 : (K == 0) = false := by simp [k0]
          have q1 : (K == 1) = false := by simp [k1]
          have q2 : (K == 2) = false := by simp [k2]
          obtain ⟨ce, hce⟩ : ∃ z, cutE x.n of ot = z := ⟨_, rfl⟩
          have HCE := Lib.hid hce
          clear hce
          go_upto_region 12 with (fail)
          refine region_gen (D1 w P Q x (x.cut of ot oo) x (x.cut of ot oo) 7 15 B #[.int .i64 K, .int .i64 of, .int .i64 ot, .string os, .int .i64 oi, .bool oo]) (by kernel_rfl) (by kernel_rfl) (D1.start HP.out HBX.out.1 HBX.out.2.1 HBX.out.2.2) ?_
          repeat
            (refine step_gen (by decide) (by rfl) (fun K_ hK => ?_)
             go_simp
             first
               | (with_reducible apply H1.one
                  · intro σ wv hk hd hv
                    have z1 : wv.cell? ⟨B, 1, none⟩ = some (.int .i64 of) := hv.b.cell 1 _ rfl
                    have z2 : wv.cell? ⟨B, 2, none⟩ = some (.int .i64 ot) := hv.b.cell 2 _ rfl
                    have z3 : wv.cell? ⟨B, 3, none⟩ = some (.string os) := hv.b.cell 3 _ rfl
                    have z4 : wv.cell? ⟨B, 4, none⟩ = some (.int .i64 oi) := hv.b.cell 4 _ rfl
                    have z5 : wv.cell? ⟨B, 5, none⟩ = some (.bool oo) := hv.b.cell 5 _ rfl
                    have Hv := Lib.hid hv
                    clear hv
                    go_simp
                    (first
                        | (with_reducible refine ⟨rfl, ?_⟩; exact D1.pure Hv.out (by decide) (by decide))
                        | (obtain ⟨v1, hp1, hnext⟩ := Hv.out.stepP hk (by decide)
                           refine (cut_c hp1 HQ.out (by omega) of ot oo _ HCE.out).mono ?_
                           rintro e2 w2 ⟨rfl, u2, hp2, st2⟩
                           exact ⟨_, rfl, rfl, hnext _ _ _ hp2 st2⟩)
                        | (obtain ⟨v1, hp1, hnext⟩ := Hv.out.stepR hk (by decide)
                           refine (rcut_c hp1 HQ.out (by omega) of ot oo _ HCE.out).mono ?_
                           rintro e2 w2 ⟨rfl, u2, hp2, st2⟩
                           exact ⟨_, rfl, rfl, hnext _ _ _ hp2 st2⟩))
                  refine hK _ _ _ ?_
                  clear hK K_))
          refine nil_gen ?_
          intro σ w9 hall ht hv
          obtain ⟨v9, u9, hp2, hn1, hn2⟩ := hv.e
          simp only [hall 7 (by decide), hall 15 (by decide), if_true] at hp2
          have hb9 := hv.b
          clear hv hall ht σ
          have HP2 := Lib.hid hp2
          have HB2 := Lib.hid (And.intro hb9 (And.intro hn1 hn2))
          clear hp2 hb9 hn1 hn2 HP HBX x0 x1 x2 x3 x4 x5
          have HWI := Lib.hid (show WI (100 * (k + 1)) (x.cut of ot oo) from (HQ.out.cut _ _ _).more (by omega))
          generalize x.cut of ot oo = x2 at HP2 HWI
          go_upto_region 25 with (fail)
          obtain ⟨wl, hwl⟩ : ∃ z, (x2.ls.length : Int) = z := ⟨_, rfl⟩
          obtain ⟨lo, hlo⟩ : ∃ z, x2.lost = z := ⟨_, rfl⟩
          obtain ⟨oo2, hoo⟩ : ∃ z, x2.outB of ot = z := ⟨_, rfl⟩
          obtain ⟨pa, ca, hvv⟩ := HP2.out.r.s.len
          have c1 : w9.cell? ⟨Q, 1, none⟩ = some (.slice pa x2.ls.length ca) := by rw [← hvv]; exact HP2.out.r.c1
          have cl : w9.cell? ⟨Q, 258, none⟩ = some (.int .i64 lo) := by rw [← hlo]; exact HP2.out.r.cl
          have x1 : w9.cell? ⟨B, 1, none⟩ = some (.int .i64 of) := HB2.out.1.cell 1 _ rfl
          have x2c : w9.cell? ⟨B, 2, none⟩ = some (.int .i64 ot) := HB2.out.1.cell 2 _ rfl
          have HVAL := Lib.hid (And.intro hwl (And.intro hlo hoo))
          clear hlo hoo hvv
          refine region_gen (Rd w9) (by kernel_rfl) (by kernel_rfl) (Rd.start _) ?_
          repeat
            (refine step_gen (by decide) (by rfl) (fun K_ hK => ?_)
             go_simp
             first
               | (with_reducible refine Sk.of Rd.skips ?_
                  refine hK _ _ _ ?_
                  clear hK K_)
               | (with_reducible apply H1.one
                  · intro σ wv hk hd hv
                    obtain ⟨⟨m_, rfl⟩⟩ := hv
                    go_simp
                    (first
                      | (with_reducible refine ⟨rfl, ?_⟩; exact ⟨m_, rfl⟩)
                      | (refine ((HP2.out.drewN m_).waits _ HVAL.out.1).mono ?_; rintro e w' ⟨rfl, hw⟩; subst hw; exact ⟨_, rfl, rfl, ⟨m_, rfl⟩⟩)
                      | (refine ((HP2.out.drewN m_).lost _ HVAL.out.2.1).mono ?_; rintro e w' ⟨rfl, hw⟩; subst hw; exact ⟨_, rfl, rfl, ⟨m_, rfl⟩⟩)
                      | (refine ((HP2.out.drewN m_).out HWI.out of ot _ HVAL.out.2.2).mono ?_; rintro e w' ⟨rfl, hw⟩; subst hw; exact ⟨_, rfl, rfl, ⟨m_, rfl⟩⟩)
                      | (refine ((HP2.out.drewN m_).rout HWI.out of ot _ HVAL.out.2.2).mono ?_; rintro e w' ⟨rfl, hw⟩; subst hw; exact ⟨_, rfl, rfl, ⟨m_, rfl⟩⟩))
                  refine hK _ _ _ ?_
                  clear hK K_))
          refine nil_gen ?_
          rintro σ wv - - ⟨⟨nq, rfl⟩⟩
          clear σ
          have HP3 := Lib.hid (HP2.out.drewN nq)
          have HB3 := Lib.hid (HB2.out.1.drewN nq)
          clear HP2 HB2 c1 cl x1 x2c HVAL hwl
          generalize w9.drewN nq = w10 at HP3 HB3 ⊢
          obtain ⟨lf, lt, lsx, hL⟩ : ∃ f t s, atL x2.ls oi = ⟨f, t, s⟩ := ⟨_, _, _, rfl⟩
          obtain ⟨le, hE⟩ : ∃ e, atE x2.ls oi = e := ⟨_, rfl⟩
          have HLE := Lib.hid (And.intro hL hE)
          clear hL hE
          have x4 : w10.cell? ⟨B, 4, none⟩ = some (.int .i64 oi) := HB3.out.cell 4 _ rfl
          go_upto_region 28 with (go_at_call 21; (with_reducible refine (HP3.out.atb HWI.out oi lf lt lsx le HLE.out.1 HLE.out.2).mono ?_); rintro e' w11 ⟨rfl, hb11⟩)
          have HP4 := Lib.hid ((HP3.out.below hb11).below (below_new w11 (.cells #[.int .i64 lf, .int .i64 lt, .string lsx] 34)))
          have HB4 := Lib.hid ((HB3.out.below hb11).below (below_new w11 (.cells #[.int .i64 lf, .int .i64 lt, .string lsx] 34)))
          have HR0 := Lib.hid (Row.new w11 #[.int .i64 lf, .int .i64 lt, .string lsx] 34)
          clear hb11 HP3 HB3 x4
          generalize w11.alloc (.cells #[.int .i64 lf, .int .i64 lt, .string lsx] 34) = w12 at HP4 HB4 HR0 ⊢
          generalize w11.heap.size = B1 at HR0 ⊢
          have x4 : w12.cell? ⟨B, 4, none⟩ = some (.int .i64 oi) := HB4.out.cell 4 _ rfl
          go_upto_region 29 with (go_at_call 22; (with_reducible refine (HP4.out.ratb HWI.out oi lf lt lsx le HLE.out.1 HLE.out.2).mono ?_); rintro e' w13 ⟨rfl, hb13⟩)
          have HP5 := Lib.hid ((HP4.out.below hb13).below (below_new w13 (.cells #[.int .i64 lf, .int .i64 lt, .string lsx] 36)))
          have HR1 := Lib.hid ((HR0.out.below hb13).below (below_new w13 (.cells #[.int .i64 lf, .int .i64 lt, .string lsx] 36)))
          have HR2 := Lib.hid (Row.new w13 #[.int .i64 lf, .int .i64 lt, .string lsx] 36)
          clear hb13 HP4 HB4 HR0 x4
          generalize w13.alloc (.cells #[.int .i64 lf, .int .i64 lt, .string lsx] 36) = w14 at HP5 HR1 HR2 ⊢
          generalize w13.heap.size = B2 at HR2 ⊢
          refine region_gen (Bl w14) (by kernel_rfl) (by kernel_rfl) (Bl.start _) ?_
          repeat
            (refine step_gen (by decide) (by rfl) (fun K_ hK => ?_)
             go_simp
             first
               | (with_reducible refine Sk.of Bl.skips ?_
                  refine hK _ _ _ ?_
                  clear hK K_)
               | (with_reducible apply H1.one
                  · intro σ wv hk hd hv
                    have r1 := HR1.out.below hv.b
                    have r2 := HR2.out.below hv.b
                    have z0 : wv.cell? ⟨B1, 0, none⟩ = some (.int .i64 lf) := r1.cell 0 _ rfl
                    have z1 : wv.cell? ⟨B1, 1, none⟩ = some (.int .i64 lt) := r1.cell 1 _ rfl
                    have z2 : wv.cell? ⟨B1, 2, none⟩ = some (.string lsx) := r1.cell 2 _ rfl
                    have y0 : wv.cell? ⟨B2, 0, none⟩ = some (.int .i64 lf) := r2.cell 0 _ rfl
                    have y1 : wv.cell? ⟨B2, 1, none⟩ = some (.int .i64 lt) := r2.cell 1 _ rfl
                    have y2 : wv.cell? ⟨B2, 2, none⟩ = some (.string lsx) := r2.cell 2 _ rfl
                    have Hv := Lib.hid hv
                    clear hv r1 r2
                    go_simp
                    (first
                        | (with_reducible refine ⟨rfl, ?_⟩; exact Bl.upd Hv.out)
                        | (refine (fromL_any lf lt lsx wv).mono ?_
                           rintro e2 w2 ⟨rfl, hb2⟩
                           exact ⟨_, rfl, rfl, Bl.call Hv.out hb2⟩))
                  refine hK _ _ _ ?_
                  clear hK K_))
          refine nil_gen ?_
          intro σ w15 hall ht hv
          have HBL := Lib.hid hv.b
          clear hv hall ht σ
          have HP6 := Lib.hid (HP5.out.below HBL.out)
          clear HP5 HR1 HR2 HBL
          go_wp2
          go_roundw
          case rel => exact ⟨k + 1, by omega, by omega, by go_num, _, _, x2, HP6.out, HWI.out⟩
          case measure => simp [intOf]; omega
    · by_cases hlt : k < len
      · have hd200 : decide ((k : Int) < 200) = false := by simp; omega
        have hl1 : (k : Int) < (len : Int) := by omega
        clear hin
        as_aux_lemma =>
          have HP := Lib.hid hp
          have HQ := Lib.hid hq
          have hlen := hq.l
          clear hp hq
          go_wp2
          go_loopw [19] (fun vi wr2 => ∃ j : Nat, j ≤ x.ls.length ∧ vi = .int .i64 j ∧ DW w wr2 P v Q u x x) (fun vi _ => x.ls.length - (intOf vi).toNat)
          case atStart => exact ⟨0, Nat.zero_le _, rfl, HP.out⟩
          case round =>
            obtain ⟨j, hj, rfl, hp2⟩ := hrel
            obtain ⟨pa, ca, hvv⟩ := hp2.r.s.len
            have c1 := hp2.r.c1
            rw [hvv] at c1
            have HP2 := Lib.hid hp2
            clear hp2
            by_cases hlt : j < x.ls.length
            · have ek := List.getElem?_eq_getElem hlt
              rcases HP2.out.r.s.form with ⟨-, hnil⟩ | ⟨g, cap, hv2⟩
              · rw [hnil] at hlt; simp at hlt
              have HV2 := Lib.hid hv2
              rw [hvv] at hv2
              injection hv2 with q1 q2 q3
              subst q1 q3
              clear q2 hvv
              generalize x.ls[j] = y at ek
              obtain ⟨lf, lt, lsx⟩ := y
              have HA := Lib.hid (atL_at ek)
              have HE := Lib.hid ek
              have hjl : (j : Int) < (x.ls.length : Int) := by omega
              clear ek
              go_upto_region 35 with (go_at_call 21; (with_reducible refine (HP2.out.atb HQ.out j lf lt lsx 0 HA.out.1 HA.out.2).mono ?_); rintro e' w11 ⟨rfl, hb11⟩)
              have HP4 := Lib.hid ((HP2.out.below hb11).below (below_new w11 (.cells #[.int .i64 lf, .int .i64 lt, .string lsx] 34)))
              have HR1 := Lib.hid (Row.new w11 #[.int .i64 lf, .int .i64 lt, .string lsx] 34)
              clear hb11 HP2 c1
              generalize w11.alloc (.cells #[.int .i64 lf, .int .i64 lt, .string lsx] 34) = w12 at HP4 HR1 ⊢
              generalize w11.heap.size = B1 at HR1 ⊢
              refine region_gen (Bl w12) (by kernel_rfl) (by kernel_rfl) (Bl.start _) ?_
              repeat
                (refine step_gen (by decide) (by rfl) (fun K_ hK => ?_)
                 go_simp
                 first
                   | (with_reducible refine Sk.of Bl.skips ?_
                      refine hK _ _ _ ?_
                      clear hK K_)
                   | (with_reducible apply H1.one
                      · intro σ wv hk hd hv
                        have hpw := HP4.out.below hv.b
                        have r1 := HR1.out.below hv.b
                        have z0 : wv.cell? ⟨B1, 0, none⟩ = some (.int .i64 lf) := r1.cell 0 _ rfl
                        have z1 : wv.cell? ⟨B1, 1, none⟩ = some (.int .i64 lt) := r1.cell 1 _ rfl
                        have z2 : wv.cell? ⟨B1, 2, none⟩ = some (.string lsx) := r1.cell 2 _ rfl
                        have c1 : wv.cell? ⟨Q, 1, none⟩ = some (.slice (some ⟨g, 0, none⟩) x.ls.length ca) := by rw [← HV2.out]; exact hpw.r.c1
                        have hsl := hpw.r.s
                        rw [HV2.out] at hsl
                        obtain ⟨y0, y1, y2⟩ := hsl.read HE.out
                        simp only at y0 y1 y2
                        have Hv := Lib.hid hv
                        clear hv hpw r1 hsl
                        go_simp
                        (first
                            | (with_reducible refine ⟨rfl, ?_⟩; exact Bl.upd Hv.out)
                            | (refine (fromL_any lf lt lsx wv).mono ?_
                               rintro e2 w2 ⟨rfl, hb2⟩
                               exact ⟨_, rfl, rfl, Bl.call Hv.out hb2⟩))
                      refine hK _ _ _ ?_
                      clear hK K_))
              refine nil_gen ?_
              intro σ w15 hall ht hv
              have HP6 := Lib.hid (HP4.out.below hv.b)
              clear hv hall ht σ HP4 HR1
              go_wp2
              go_roundw
              case rel => exact ⟨j + 1, by omega, by go_num, HP6.out⟩
              case measure => simp [intOf]; omega
            · obtain rfl : j = x.ls.length := by omega
              clear hvv
              go_wp2
              go_ret
              exact ⟨rfl, HP2.out.b⟩
      · have hl1 : ¬ (k : Int) < (len : Int) := by omega
        clear hin
        as_aux_lemma =>
          have HP := Lib.hid hp
          have HQ := Lib.hid hq
          have hlen := hq.l
          clear hp hq
          go_wp2
          go_loopw [19] (fun vi wr2 => ∃ j : Nat, j ≤ x.ls.length ∧ vi = .int .i64 j ∧ DW w wr2 P v Q u x x) (fun vi _ => x.ls.length - (intOf vi).toNat)
          case atStart => exact ⟨0, Nat.zero_le _, rfl, HP.out⟩
          case round =>
            obtain ⟨j, hj, rfl, hp2⟩ := hrel
            obtain ⟨pa, ca, hvv⟩ := hp2.r.s.len
            have c1 := hp2.r.c1
            rw [hvv] at c1
            have HP2 := Lib.hid hp2
            clear hp2
            by_cases hlt : j < x.ls.length
            · have ek := List.getElem?_eq_getElem hlt
              rcases HP2.out.r.s.form with ⟨-, hnil⟩ | ⟨g, cap, hv2⟩
              · rw [hnil] at hlt; simp at hlt
              have HV2 := Lib.hid hv2
              rw [hvv] at hv2
              injection hv2 with q1 q2 q3
              subst q1 q3
              clear q2 hvv
              generalize x.ls[j] = y at ek
              obtain ⟨lf, lt, lsx⟩ := y
              have HA := Lib.hid (atL_at ek)
              have HE := Lib.hid ek
              have hjl : (j : Int) < (x.ls.length : Int) := by omega
              clear ek
              go_upto_region 35 with (go_at_call 21; (with_reducible refine (HP2.out.atb HQ.out j lf lt lsx 0 HA.out.1 HA.out.2).mono ?_); rintro e' w11 ⟨rfl, hb11⟩)
              have HP4 := Lib.hid ((HP2.out.below hb11).below (below_new w11 (.cells #[.int .i64 lf, .int .i64 lt, .string lsx] 34)))
              have HR1 := Lib.hid (Row.new w11 #[.int .i64 lf, .int .i64 lt, .string lsx] 34)
              clear hb11 HP2 c1
              generalize w11.alloc (.cells #[.int .i64 lf, .int .i64 lt, .string lsx] 34) = w12 at HP4 HR1 ⊢
              generalize w11.heap.size = B1 at HR1 ⊢
              refine region_gen (Bl w12) (by kernel_rfl) (by kernel_rfl) (Bl.start _) ?_
              repeat
                (refine step_gen (by decide) (by rfl) (fun K_ hK => ?_)
                 go_simp
                 first
                   | (with_reducible refine Sk.of Bl.skips ?_
                      refine hK _ _ _ ?_
                      clear hK K_)
                   | (with_reducible apply H1.one
                      · intro σ wv hk hd hv
                        have hpw := HP4.out.below hv.b
                        have r1 := HR1.out.below hv.b
                        have z0 : wv.cell? ⟨B1, 0, none⟩ = some (.int .i64 lf) := r1.cell 0 _ rfl
                        have z1 : wv.cell? ⟨B1, 1, none⟩ = some (.int .i64 lt) := r1.cell 1 _ rfl
                        have z2 : wv.cell? ⟨B1, 2, none⟩ = some (.string lsx) := r1.cell 2 _ rfl
                        have c1 : wv.cell? ⟨Q, 1, none⟩ = some (.slice (some ⟨g, 0, none⟩) x.ls.length ca) := by rw [← HV2.out]; exact hpw.r.c1
                        have hsl := hpw.r.s
                        rw [HV2.out] at hsl
                        obtain ⟨y0, y1, y2⟩ := hsl.read HE.out
                        simp only at y0 y1 y2
                        have Hv := Lib.hid hv
                        clear hv hpw r1 hsl
                        go_simp
                        (first
                            | (with_reducible refine ⟨rfl, ?_⟩; exact Bl.upd Hv.out)
                            | (refine (fromL_any lf lt lsx wv).mono ?_
                               rintro e2 w2 ⟨rfl, hb2⟩
                               exact ⟨_, rfl, rfl, Bl.call Hv.out hb2⟩))
                      refine hK _ _ _ ?_
                      clear hK K_))
              refine nil_gen ?_
              intro σ w15 hall ht hv
              have HP6 := Lib.hid (HP4.out.below hv.b)
              clear hv hall ht σ HP4 HR1
              go_wp2
              go_roundw
              case rel => exact ⟨j + 1, by omega, by go_num, HP6.out⟩
              case measure => simp [intOf]; omega
            · obtain rfl : j = x.ls.length := by omega
              clear hvv
              go_wp2
              go_ret
              exact ⟨rfl, HP2.out.b⟩
end Go.Proofs.Ytppjjbhbbnnpgaa
