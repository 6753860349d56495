/- A node's tick. Conditions: the node and its detector lie whole in memory; their numbers are within bounds. -/
import Derived.Test.YtccmnphjiebiaaaWhole
namespace Go.Proofs.Ytccmnphjiebiaaa
open Go.RowKit G
set_option linter.unusedVariables false
set_option linter.unusedSimpArgs false
attribute [local go_sem] upon_value upon_skip upon_enter runAt_run
def Nd.tick (x : Nd) (n : Nat) (beats alive : Bool) : Nd :=
  if x.role = 4 ∧ beats = true then Nd.told { x with ticks := x.ticks + 1 } n
  else if x.role = 0 ∧ alive = false then Nd.ask { x with ticks := x.ticks + 1 }
  else if x.role = 1 ∧ x.ticks + 1 = x.wait then Nd.turn { x with ticks := x.ticks + 1 } 3
  else if x.role = 2 ∧ x.ticks + 1 = 2 * x.wait then Nd.ask { x with ticks := x.ticks + 1 }
  else { x with ticks := x.ticks + 1 }
def PN.tick (s : PN) (n : Nat) : PN := { s with x := s.x.tick n (tickB s.left) (aliveB (tickL s.x.self s.limit s.xs) s.limit s.x.lead), xs := tickL s.x.self s.limit s.xs, left := tickLeft s.every s.left }
theorem NodeAt.setT {T E : TypeId} {w : World} {P : Nat} {x : Nd} {h v : Value} (k : NodeAt T E w P x h v) (t : Int) : NodeAt T E (w.setCell ⟨P, 6, none⟩ (.int .i64 t)) P { x with ticks := t } h v :=
  ⟨(k.r.set 6 _).cast (by simp [Nd.row]), own_set k.s P 6 k.nP _, k.nP⟩
theorem alive_lit {w : World} {P S : Nat} {xs : List Int} {me every limit left : Int} (h : Det w P S xs me every limit left) (k : Int) (b : Bool) (hb : aliveB xs limit k = b) :
    Calls Try.prog 31 #[.pointer (some ⟨P, 0, none⟩), .int .i64 k] w fun e w' => e = .returned (.bool b) ∧ ∃ m, w' = w.drewN m := by rw [← hb]; exact alive_any h k
theorem PAt.setT {w : World} {P D S : Nat} {v : Value} {s : PN} (h : PAt w P D S v s) (t : Int) : PAt (w.setCell ⟨P, 6, none⟩ (.int .i64 t)) P D S v { s with x := { s.x with ticks := t } } :=
  h.node (h.nd.setT t) ((Mv.refl P v w).set 6 _) rfl
set_option maxHeartbeats 4000000 in
theorem ntick4y {w : World} {P D S n : Nat} {v : Value} {self wait lead term ticks : Int} {ws : List Wd} {xs : List Int} {every limit left : Int} (h : PAt w P D S v ⟨⟨n, self, wait, 4, lead, term, ticks, ws⟩, xs, every, limit, left⟩)
    (hx : ∀ i (hi : i < xs.length), 0 ≤ xs[i] ∧ xs[i] ≤ 1000000) (hl0 : -1000000 ≤ left) (hl1 : left ≤ 1000000) (ht0 : 0 ≤ ticks) (ht1 : ticks ≤ 900000) (hw0 : 1 ≤ wait) (hw1 : wait ≤ 100)
    (hn0 : 0 ≤ self) (hn1 : self < n) (hn8 : n ≤ 8) (hws : ws.length ≤ 1048500) (hb : tickB left = true) :
    Calls Try.prog 8 #[.pointer (some ⟨P, 0, none⟩)] w fun e w' => e = .returned (.tuple #[]) ∧ ∃ u, PAt w' P D S u ⟨Nd.told ⟨n, self, wait, 4, lead, term, ticks + 1, ws⟩ n, tickL self limit xs, every, limit, tickLeft every left⟩ ∧ Stp (fp P D S v) (fp P D S u) w w' := by
  obtain ⟨c0, c1, c2, c3, c4, c5, c6, c7, c8, cf⟩ := h.nd.cells
  have hwt : wrap64 (ticks + 1) = ticks + 1 := wrap64_mid (by omega) (by omega)
  have hwd : wrap64 (2 * wait) = 2 * wait := wrap64_mid (by omega) (by omega)
  have HD := Lib.hid (And.intro h.dt (And.intro hx (And.intro hl0 hl1)))
  have HB := Lib.hid (And.intro hn0 (And.intro hn1 (And.intro hn8 hws)))
  have H0 := Lib.hid h
  clear h hx hl0 hl1 ht0 ht1 hw0 hw1 hn0 hn1 hn8 hws
  go_enter Try.func8, Try.ntmps8
  go_upto_region 1 with (go_at_call 29; (with_reducible refine (tick_any HD.out.1 HD.out.2.1 HD.out.2.2.1 HD.out.2.2.2).mono ?_); rintro e' w1 ⟨rfl, hd1, hk1⟩)
  have hA := H0.out.det hd1 hk1
  have HS := Lib.hid (PAt.stpD (P := P) (v := v) hk1)
  obtain ⟨c0, c1, c2, c3, c4, c5, c6, c7, c8, cf⟩ := hA.nd.cells
  have HA := Lib.hid hA
  clear hA hd1 hk1
  go_upto_region 2 with (fail)
  have HT := Lib.hid (HA.out.setT (ticks + 1))
  have HU := Lib.hid (HS.out.trans (show Stp (fp P D S v) (fp P D S v) w1 (w1.setCell ⟨P, 6, none⟩ (.int .i64 (ticks + 1))) from ((Mv.refl P v w1).set 6 (.int .i64 (ticks + 1))).stp))
  generalize (w1.setCell ⟨P, 6, none⟩ (.int .i64 (ticks + 1))) = w2 at HT HU ⊢
  clear c0 c1 c2 c3 c4 c5 c6 c7 c8 cf HA HS
  obtain ⟨c0, c1, c2, c3, c4, c5, c6, c7, c8, cf⟩ := HT.out.nd.cells
  simp only [] at c0 c1 c2 c3 c4 c5 c6 c7 c8
  go_wp2_with (go_at_call 30; (with_reducible refine (tell_any (show NodeAt 69 35 _ P ⟨n, self, wait, 4, lead, term, ticks + 1, ws⟩ (ptr D) v from HT.out.nd) HB.out.2.2.1 HB.out.2.2.2).mono ?_); rintro e' w4 ⟨rfl, u, hd2, hm2⟩)
  go_end0
  exact ⟨rfl, u, HT.out.node hd2 hm2 rfl, HU.out.trans hm2.stp⟩
set_option maxHeartbeats 4000000 in
theorem ntick4n {w : World} {P D S n : Nat} {v : Value} {self wait lead term ticks : Int} {ws : List Wd} {xs : List Int} {every limit left : Int} (h : PAt w P D S v ⟨⟨n, self, wait, 4, lead, term, ticks, ws⟩, xs, every, limit, left⟩)
    (hx : ∀ i (hi : i < xs.length), 0 ≤ xs[i] ∧ xs[i] ≤ 1000000) (hl0 : -1000000 ≤ left) (hl1 : left ≤ 1000000) (ht0 : 0 ≤ ticks) (ht1 : ticks ≤ 900000) (hw0 : 1 ≤ wait) (hw1 : wait ≤ 100)
    (hn0 : 0 ≤ self) (hn1 : self < n) (hn8 : n ≤ 8) (hws : ws.length ≤ 1048500) (hb : tickB left = false) :
    Calls Try.prog 8 #[.pointer (some ⟨P, 0, none⟩)] w fun e w' => e = .returned (.tuple #[]) ∧ ∃ u, PAt w' P D S u ⟨⟨n, self, wait, 4, lead, term, ticks + 1, ws⟩, tickL self limit xs, every, limit, tickLeft every left⟩ ∧ Stp (fp P D S v) (fp P D S u) w w' := by
  obtain ⟨c0, c1, c2, c3, c4, c5, c6, c7, c8, cf⟩ := h.nd.cells
  have hwt : wrap64 (ticks + 1) = ticks + 1 := wrap64_mid (by omega) (by omega)
  have hwd : wrap64 (2 * wait) = 2 * wait := wrap64_mid (by omega) (by omega)
  have HD := Lib.hid (And.intro h.dt (And.intro hx (And.intro hl0 hl1)))
  have HB := Lib.hid (And.intro hn0 (And.intro hn1 (And.intro hn8 hws)))
  have H0 := Lib.hid h
  clear h hx hl0 hl1 ht0 ht1 hw0 hw1 hn0 hn1 hn8 hws
  go_enter Try.func8, Try.ntmps8
  go_upto_region 1 with (go_at_call 29; (with_reducible refine (tick_any HD.out.1 HD.out.2.1 HD.out.2.2.1 HD.out.2.2.2).mono ?_); rintro e' w1 ⟨rfl, hd1, hk1⟩)
  have hA := H0.out.det hd1 hk1
  have HS := Lib.hid (PAt.stpD (P := P) (v := v) hk1)
  obtain ⟨c0, c1, c2, c3, c4, c5, c6, c7, c8, cf⟩ := hA.nd.cells
  have HA := Lib.hid hA
  clear hA hd1 hk1
  go_upto_region 2 with (fail)
  have HT := Lib.hid (HA.out.setT (ticks + 1))
  have HU := Lib.hid (HS.out.trans (show Stp (fp P D S v) (fp P D S v) w1 (w1.setCell ⟨P, 6, none⟩ (.int .i64 (ticks + 1))) from ((Mv.refl P v w1).set 6 (.int .i64 (ticks + 1))).stp))
  generalize (w1.setCell ⟨P, 6, none⟩ (.int .i64 (ticks + 1))) = w2 at HT HU ⊢
  clear c0 c1 c2 c3 c4 c5 c6 c7 c8 cf HA HS
  obtain ⟨c0, c1, c2, c3, c4, c5, c6, c7, c8, cf⟩ := HT.out.nd.cells
  simp only [] at c0 c1 c2 c3 c4 c5 c6 c7 c8
  go_upto_region 4 with (fail)
  refine region_gen (Rd w2) (by kernel_rfl) (by kernel_rfl) (Rd.start _) ?_
  repeat
    (refine step_gen (by decide) (by rfl) (fun K hK => ?_)
     go_simp
     first
       | (with_reducible refine Sk.of Rd.skips ?_
          refine hK _ _ _ ?_
          clear hK K)
       | (with_reducible apply H1.one
          · intro σ wv hk hd hv
            obtain ⟨⟨m_, rfl⟩⟩ := hv
            go_simp
            (with_reducible refine ⟨rfl, ?_⟩)
            exact ⟨m_, rfl⟩
          refine hK _ _ _ ?_
          clear hK K))
  refine nil_gen ?_
  rintro σ wv - - ⟨⟨n1, rfl⟩⟩
  clear σ
  have HT2 := Lib.hid (HT.out.drewN n1)
  have HU2 := Lib.hid (HU.out.drewN n1)
  generalize w2.drewN n1 = W1 at HT2 HU2 ⊢
  clear c0 c1 c2 c3 c4 c5 c6 c7 c8 cf HT HU
  obtain ⟨c0, c1, c2, c3, c4, c5, c6, c7, c8, cf⟩ := HT2.out.nd.cells
  simp only [] at c0 c1 c2 c3 c4 c5 c6 c7 c8
  have HT := HT2
  have HU := HU2
  clear HT2 HU2
  go_upto_region 6 with (fail)
  refine region_gen (Rd W1) (by kernel_rfl) (by kernel_rfl) (Rd.start _) ?_
  repeat
    (refine step_gen (by decide) (by rfl) (fun K hK => ?_)
     go_simp
     first
       | (with_reducible refine Sk.of Rd.skips ?_
          refine hK _ _ _ ?_
          clear hK K)
       | (with_reducible apply H1.one
          · intro σ wv hk hd hv
            obtain ⟨⟨m_, rfl⟩⟩ := hv
            go_simp
            (with_reducible refine ⟨rfl, ?_⟩)
            exact ⟨m_, rfl⟩
          refine hK _ _ _ ?_
          clear hK K))
  refine nil_gen ?_
  rintro σ wv - - ⟨⟨n2, rfl⟩⟩
  clear σ
  have HT2 := Lib.hid (HT.out.drewN n2)
  have HU2 := Lib.hid (HU.out.drewN n2)
  generalize W1.drewN n2 = W2 at HT2 HU2 ⊢
  clear c0 c1 c2 c3 c4 c5 c6 c7 c8 cf HT HU
  obtain ⟨c0, c1, c2, c3, c4, c5, c6, c7, c8, cf⟩ := HT2.out.nd.cells
  simp only [] at c0 c1 c2 c3 c4 c5 c6 c7 c8
  have HT := HT2
  have HU := HU2
  clear HT2 HU2
  go_upto_region 8 with (fail)
  refine region_gen (Rd W2) (by kernel_rfl) (by kernel_rfl) (Rd.start _) ?_
  repeat
    (refine step_gen (by decide) (by rfl) (fun K hK => ?_)
     go_simp
     first
       | (with_reducible refine Sk.of Rd.skips ?_
          refine hK _ _ _ ?_
          clear hK K)
       | (with_reducible apply H1.one
          · intro σ wv hk hd hv
            obtain ⟨⟨m_, rfl⟩⟩ := hv
            go_simp
            (with_reducible refine ⟨rfl, ?_⟩)
            exact ⟨m_, rfl⟩
          refine hK _ _ _ ?_
          clear hK K))
  refine nil_gen ?_
  rintro σ wv - - ⟨⟨n3, rfl⟩⟩
  clear σ
  have HT2 := Lib.hid (HT.out.drewN n3)
  have HU2 := Lib.hid (HU.out.drewN n3)
  generalize W2.drewN n3 = W3 at HT2 HU2 ⊢
  clear c0 c1 c2 c3 c4 c5 c6 c7 c8 cf HT HU
  obtain ⟨c0, c1, c2, c3, c4, c5, c6, c7, c8, cf⟩ := HT2.out.nd.cells
  simp only [] at c0 c1 c2 c3 c4 c5 c6 c7 c8
  have HT := HT2
  have HU := HU2
  clear HT2 HU2
  go_wp2
  go_end0
  exact ⟨rfl, v, HT.out, HU.out⟩
set_option maxHeartbeats 4000000 in
theorem ntick0y {w : World} {P D S n : Nat} {v : Value} {self wait lead term ticks : Int} {ws : List Wd} {xs : List Int} {every limit left : Int} (h : PAt w P D S v ⟨⟨n, self, wait, 0, lead, term, ticks, ws⟩, xs, every, limit, left⟩)
    (hx : ∀ i (hi : i < xs.length), 0 ≤ xs[i] ∧ xs[i] ≤ 1000000) (hl0 : -1000000 ≤ left) (hl1 : left ≤ 1000000) (ht0 : 0 ≤ ticks) (ht1 : ticks ≤ 900000) (hw0 : 1 ≤ wait) (hw1 : wait ≤ 100)
    (hn0 : 0 ≤ self) (hn1 : self < n) (hn8 : n ≤ 8) (hws : ws.length ≤ 1048500) (ha : aliveB (tickL self limit xs) limit lead = true) :
    Calls Try.prog 8 #[.pointer (some ⟨P, 0, none⟩)] w fun e w' => e = .returned (.tuple #[]) ∧ ∃ u, PAt w' P D S u ⟨⟨n, self, wait, 0, lead, term, ticks + 1, ws⟩, tickL self limit xs, every, limit, tickLeft every left⟩ ∧ Stp (fp P D S v) (fp P D S u) w w' := by
  obtain ⟨c0, c1, c2, c3, c4, c5, c6, c7, c8, cf⟩ := h.nd.cells
  have hwt : wrap64 (ticks + 1) = ticks + 1 := wrap64_mid (by omega) (by omega)
  have hwd : wrap64 (2 * wait) = 2 * wait := wrap64_mid (by omega) (by omega)
  have HD := Lib.hid (And.intro h.dt (And.intro hx (And.intro hl0 hl1)))
  have HB := Lib.hid (And.intro hn0 (And.intro hn1 (And.intro hn8 hws)))
  have H0 := Lib.hid h
  clear h hx hl0 hl1 ht0 ht1 hw0 hw1 hn0 hn1 hn8 hws
  go_enter Try.func8, Try.ntmps8
  go_upto_region 1 with (go_at_call 29; (with_reducible refine (tick_any HD.out.1 HD.out.2.1 HD.out.2.2.1 HD.out.2.2.2).mono ?_); rintro e' w1 ⟨rfl, hd1, hk1⟩)
  have hA := H0.out.det hd1 hk1
  have HS := Lib.hid (PAt.stpD (P := P) (v := v) hk1)
  obtain ⟨c0, c1, c2, c3, c4, c5, c6, c7, c8, cf⟩ := hA.nd.cells
  have HA := Lib.hid hA
  clear hA hd1 hk1
  have HL := Lib.hid ha
  clear ha
  go_upto_region 2 with (fail)
  have HT := Lib.hid (HA.out.setT (ticks + 1))
  have HU := Lib.hid (HS.out.trans (show Stp (fp P D S v) (fp P D S v) w1 (w1.setCell ⟨P, 6, none⟩ (.int .i64 (ticks + 1))) from ((Mv.refl P v w1).set 6 (.int .i64 (ticks + 1))).stp))
  generalize (w1.setCell ⟨P, 6, none⟩ (.int .i64 (ticks + 1))) = w2 at HT HU ⊢
  clear c0 c1 c2 c3 c4 c5 c6 c7 c8 cf HA HS
  obtain ⟨c0, c1, c2, c3, c4, c5, c6, c7, c8, cf⟩ := HT.out.nd.cells
  simp only [] at c0 c1 c2 c3 c4 c5 c6 c7 c8
  go_upto_region 4 with (fail)
  refine region_gen (Rd w2) (by kernel_rfl) (by kernel_rfl) (Rd.start _) ?_
  repeat
    (refine step_gen (by decide) (by rfl) (fun K hK => ?_)
     go_simp
     first
       | (with_reducible refine Sk.of Rd.skips ?_
          refine hK _ _ _ ?_
          clear hK K)
       | (with_reducible apply H1.one
          · intro σ wv hk hd hv
            obtain ⟨⟨m_, rfl⟩⟩ := hv
            go_simp
            (with_reducible refine ⟨rfl, ?_⟩)
            exact ⟨m_, rfl⟩
          refine hK _ _ _ ?_
          clear hK K)
       | (with_reducible apply H1.one
          · intro σ wv hk hd hv
            obtain ⟨⟨m_, rfl⟩⟩ := hv
            go_simp
            (refine (alive_lit (HT.out.dt.drewN m_) lead true HL.out).mono ?_
             rintro e w' ⟨rfl, m2, rfl⟩
             exact ⟨_, rfl, rfl, ⟨m_ + m2, drewN_drewN ..⟩⟩)
          refine hK _ _ _ ?_
          clear hK K))
  refine nil_gen ?_
  rintro σ wv - - ⟨⟨n1, rfl⟩⟩
  clear σ
  have HT2 := Lib.hid (HT.out.drewN n1)
  have HU2 := Lib.hid (HU.out.drewN n1)
  generalize w2.drewN n1 = W1 at HT2 HU2 ⊢
  clear c0 c1 c2 c3 c4 c5 c6 c7 c8 cf HT HU
  obtain ⟨c0, c1, c2, c3, c4, c5, c6, c7, c8, cf⟩ := HT2.out.nd.cells
  simp only [] at c0 c1 c2 c3 c4 c5 c6 c7 c8
  have HT := HT2
  have HU := HU2
  clear HT2 HU2
  go_upto_region 6 with (fail)
  refine region_gen (Rd W1) (by kernel_rfl) (by kernel_rfl) (Rd.start _) ?_
  repeat
    (refine step_gen (by decide) (by rfl) (fun K hK => ?_)
     go_simp
     first
       | (with_reducible refine Sk.of Rd.skips ?_
          refine hK _ _ _ ?_
          clear hK K)
       | (with_reducible apply H1.one
          · intro σ wv hk hd hv
            obtain ⟨⟨m_, rfl⟩⟩ := hv
            go_simp
            (with_reducible refine ⟨rfl, ?_⟩)
            exact ⟨m_, rfl⟩
          refine hK _ _ _ ?_
          clear hK K))
  refine nil_gen ?_
  rintro σ wv - - ⟨⟨n2, rfl⟩⟩
  clear σ
  have HT2 := Lib.hid (HT.out.drewN n2)
  have HU2 := Lib.hid (HU.out.drewN n2)
  generalize W1.drewN n2 = W2 at HT2 HU2 ⊢
  clear c0 c1 c2 c3 c4 c5 c6 c7 c8 cf HT HU
  obtain ⟨c0, c1, c2, c3, c4, c5, c6, c7, c8, cf⟩ := HT2.out.nd.cells
  simp only [] at c0 c1 c2 c3 c4 c5 c6 c7 c8
  have HT := HT2
  have HU := HU2
  clear HT2 HU2
  go_upto_region 8 with (fail)
  refine region_gen (Rd W2) (by kernel_rfl) (by kernel_rfl) (Rd.start _) ?_
  repeat
    (refine step_gen (by decide) (by rfl) (fun K hK => ?_)
     go_simp
     first
       | (with_reducible refine Sk.of Rd.skips ?_
          refine hK _ _ _ ?_
          clear hK K)
       | (with_reducible apply H1.one
          · intro σ wv hk hd hv
            obtain ⟨⟨m_, rfl⟩⟩ := hv
            go_simp
            (with_reducible refine ⟨rfl, ?_⟩)
            exact ⟨m_, rfl⟩
          refine hK _ _ _ ?_
          clear hK K))
  refine nil_gen ?_
  rintro σ wv - - ⟨⟨n3, rfl⟩⟩
  clear σ
  have HT2 := Lib.hid (HT.out.drewN n3)
  have HU2 := Lib.hid (HU.out.drewN n3)
  generalize W2.drewN n3 = W3 at HT2 HU2 ⊢
  clear c0 c1 c2 c3 c4 c5 c6 c7 c8 cf HT HU
  obtain ⟨c0, c1, c2, c3, c4, c5, c6, c7, c8, cf⟩ := HT2.out.nd.cells
  simp only [] at c0 c1 c2 c3 c4 c5 c6 c7 c8
  have HT := HT2
  have HU := HU2
  clear HT2 HU2
  go_wp2
  go_end0
  exact ⟨rfl, v, HT.out, HU.out⟩
set_option maxHeartbeats 4000000 in
theorem ntick0n {w : World} {P D S n : Nat} {v : Value} {self wait lead term ticks : Int} {ws : List Wd} {xs : List Int} {every limit left : Int} (h : PAt w P D S v ⟨⟨n, self, wait, 0, lead, term, ticks, ws⟩, xs, every, limit, left⟩)
    (hx : ∀ i (hi : i < xs.length), 0 ≤ xs[i] ∧ xs[i] ≤ 1000000) (hl0 : -1000000 ≤ left) (hl1 : left ≤ 1000000) (ht0 : 0 ≤ ticks) (ht1 : ticks ≤ 900000) (hw0 : 1 ≤ wait) (hw1 : wait ≤ 100)
    (hn0 : 0 ≤ self) (hn1 : self < n) (hn8 : n ≤ 8) (hws : ws.length ≤ 1048500) (ha : aliveB (tickL self limit xs) limit lead = false) :
    Calls Try.prog 8 #[.pointer (some ⟨P, 0, none⟩)] w fun e w' => e = .returned (.tuple #[]) ∧ ∃ u, PAt w' P D S u ⟨Nd.ask ⟨n, self, wait, 0, lead, term, ticks + 1, ws⟩, tickL self limit xs, every, limit, tickLeft every left⟩ ∧ Stp (fp P D S v) (fp P D S u) w w' := by
  obtain ⟨c0, c1, c2, c3, c4, c5, c6, c7, c8, cf⟩ := h.nd.cells
  have hwt : wrap64 (ticks + 1) = ticks + 1 := wrap64_mid (by omega) (by omega)
  have hwd : wrap64 (2 * wait) = 2 * wait := wrap64_mid (by omega) (by omega)
  have HD := Lib.hid (And.intro h.dt (And.intro hx (And.intro hl0 hl1)))
  have HB := Lib.hid (And.intro hn0 (And.intro hn1 (And.intro hn8 hws)))
  have H0 := Lib.hid h
  clear h hx hl0 hl1 ht0 ht1 hw0 hw1 hn0 hn1 hn8 hws
  go_enter Try.func8, Try.ntmps8
  go_upto_region 1 with (go_at_call 29; (with_reducible refine (tick_any HD.out.1 HD.out.2.1 HD.out.2.2.1 HD.out.2.2.2).mono ?_); rintro e' w1 ⟨rfl, hd1, hk1⟩)
  have hA := H0.out.det hd1 hk1
  have HS := Lib.hid (PAt.stpD (P := P) (v := v) hk1)
  obtain ⟨c0, c1, c2, c3, c4, c5, c6, c7, c8, cf⟩ := hA.nd.cells
  have HA := Lib.hid hA
  clear hA hd1 hk1
  have HL := Lib.hid ha
  clear ha
  go_upto_region 2 with (fail)
  have HT := Lib.hid (HA.out.setT (ticks + 1))
  have HU := Lib.hid (HS.out.trans (show Stp (fp P D S v) (fp P D S v) w1 (w1.setCell ⟨P, 6, none⟩ (.int .i64 (ticks + 1))) from ((Mv.refl P v w1).set 6 (.int .i64 (ticks + 1))).stp))
  generalize (w1.setCell ⟨P, 6, none⟩ (.int .i64 (ticks + 1))) = w2 at HT HU ⊢
  clear c0 c1 c2 c3 c4 c5 c6 c7 c8 cf HA HS
  obtain ⟨c0, c1, c2, c3, c4, c5, c6, c7, c8, cf⟩ := HT.out.nd.cells
  simp only [] at c0 c1 c2 c3 c4 c5 c6 c7 c8
  go_upto_region 4 with (fail)
  refine region_gen (Rd w2) (by kernel_rfl) (by kernel_rfl) (Rd.start _) ?_
  repeat
    (refine step_gen (by decide) (by rfl) (fun K hK => ?_)
     go_simp
     first
       | (with_reducible refine Sk.of Rd.skips ?_
          refine hK _ _ _ ?_
          clear hK K)
       | (with_reducible apply H1.one
          · intro σ wv hk hd hv
            obtain ⟨⟨m_, rfl⟩⟩ := hv
            go_simp
            (with_reducible refine ⟨rfl, ?_⟩)
            exact ⟨m_, rfl⟩
          refine hK _ _ _ ?_
          clear hK K)
       | (with_reducible apply H1.one
          · intro σ wv hk hd hv
            obtain ⟨⟨m_, rfl⟩⟩ := hv
            go_simp
            (refine (alive_lit (HT.out.dt.drewN m_) lead false HL.out).mono ?_
             rintro e w' ⟨rfl, m2, rfl⟩
             exact ⟨_, rfl, rfl, ⟨m_ + m2, drewN_drewN ..⟩⟩)
          refine hK _ _ _ ?_
          clear hK K))
  refine nil_gen ?_
  rintro σ wv - - ⟨⟨n1, rfl⟩⟩
  clear σ
  have HT2 := Lib.hid (HT.out.drewN n1)
  have HU2 := Lib.hid (HU.out.drewN n1)
  generalize w2.drewN n1 = W1 at HT2 HU2 ⊢
  clear c0 c1 c2 c3 c4 c5 c6 c7 c8 cf HT HU
  obtain ⟨c0, c1, c2, c3, c4, c5, c6, c7, c8, cf⟩ := HT2.out.nd.cells
  simp only [] at c0 c1 c2 c3 c4 c5 c6 c7 c8
  have HT := HT2
  have HU := HU2
  clear HT2 HU2
  go_upto_region 5 with (fail)
  have H3 := HT
  have HV := HU
  clear c0 c1 c2 c3 c4 c5 c6 c7 c8 cf HT HU
  go_wp2_with (go_at_call 32; (with_reducible refine (ask_any (show NodeAt 69 35 _ P ⟨n, self, wait, 0, lead, term, ticks + 1, ws⟩ (ptr D) v from H3.out.nd) HB.out.1 HB.out.2.1 (by have := HB.out.2.2.1; omega) HB.out.2.2.2).mono ?_); rintro e' w4 ⟨rfl, HR⟩)
  go_end0
  obtain ⟨u, hd2, hm2⟩ := HR
  exact ⟨rfl, u, H3.out.node hd2 hm2 (Nd.ask_self _), HV.out.trans hm2.stp⟩
set_option maxHeartbeats 4000000 in
theorem ntick1y {w : World} {P D S n : Nat} {v : Value} {self wait lead term ticks : Int} {ws : List Wd} {xs : List Int} {every limit left : Int} (h : PAt w P D S v ⟨⟨n, self, wait, 1, lead, term, ticks, ws⟩, xs, every, limit, left⟩)
    (hx : ∀ i (hi : i < xs.length), 0 ≤ xs[i] ∧ xs[i] ≤ 1000000) (hl0 : -1000000 ≤ left) (hl1 : left ≤ 1000000) (ht0 : 0 ≤ ticks) (ht1 : ticks ≤ 900000) (hw0 : 1 ≤ wait) (hw1 : wait ≤ 100)
    (hn0 : 0 ≤ self) (hn1 : self < n) (hn8 : n ≤ 8) (hws : ws.length ≤ 1048500) (hq : ticks + 1 = wait) :
    Calls Try.prog 8 #[.pointer (some ⟨P, 0, none⟩)] w fun e w' => e = .returned (.tuple #[]) ∧ ∃ u, PAt w' P D S u ⟨Nd.turn ⟨n, self, wait, 1, lead, term, ticks + 1, ws⟩ 3, tickL self limit xs, every, limit, tickLeft every left⟩ ∧ Stp (fp P D S v) (fp P D S u) w w' := by
  obtain ⟨c0, c1, c2, c3, c4, c5, c6, c7, c8, cf⟩ := h.nd.cells
  have hwt : wrap64 (ticks + 1) = ticks + 1 := wrap64_mid (by omega) (by omega)
  have hwd : wrap64 (2 * wait) = 2 * wait := wrap64_mid (by omega) (by omega)
  have HD := Lib.hid (And.intro h.dt (And.intro hx (And.intro hl0 hl1)))
  have HB := Lib.hid (And.intro hn0 (And.intro hn1 (And.intro hn8 hws)))
  have H0 := Lib.hid h
  clear h hx hl0 hl1 ht0 ht1 hw0 hw1 hn0 hn1 hn8 hws
  go_enter Try.func8, Try.ntmps8
  go_upto_region 1 with (go_at_call 29; (with_reducible refine (tick_any HD.out.1 HD.out.2.1 HD.out.2.2.1 HD.out.2.2.2).mono ?_); rintro e' w1 ⟨rfl, hd1, hk1⟩)
  have hA := H0.out.det hd1 hk1
  have HS := Lib.hid (PAt.stpD (P := P) (v := v) hk1)
  obtain ⟨c0, c1, c2, c3, c4, c5, c6, c7, c8, cf⟩ := hA.nd.cells
  have HA := Lib.hid hA
  clear hA hd1 hk1
  subst hq
  go_upto_region 2 with (fail)
  have HT := Lib.hid (HA.out.setT (ticks + 1))
  have HU := Lib.hid (HS.out.trans (show Stp (fp P D S v) (fp P D S v) w1 (w1.setCell ⟨P, 6, none⟩ (.int .i64 (ticks + 1))) from ((Mv.refl P v w1).set 6 (.int .i64 (ticks + 1))).stp))
  generalize (w1.setCell ⟨P, 6, none⟩ (.int .i64 (ticks + 1))) = w2 at HT HU ⊢
  clear c0 c1 c2 c3 c4 c5 c6 c7 c8 cf HA HS
  obtain ⟨c0, c1, c2, c3, c4, c5, c6, c7, c8, cf⟩ := HT.out.nd.cells
  simp only [] at c0 c1 c2 c3 c4 c5 c6 c7 c8
  go_upto_region 4 with (fail)
  refine region_gen (Rd w2) (by kernel_rfl) (by kernel_rfl) (Rd.start _) ?_
  repeat
    (refine step_gen (by decide) (by rfl) (fun K hK => ?_)
     go_simp
     first
       | (with_reducible refine Sk.of Rd.skips ?_
          refine hK _ _ _ ?_
          clear hK K)
       | (with_reducible apply H1.one
          · intro σ wv hk hd hv
            obtain ⟨⟨m_, rfl⟩⟩ := hv
            go_simp
            (with_reducible refine ⟨rfl, ?_⟩)
            exact ⟨m_, rfl⟩
          refine hK _ _ _ ?_
          clear hK K))
  refine nil_gen ?_
  rintro σ wv - - ⟨⟨n1, rfl⟩⟩
  clear σ
  have HT2 := Lib.hid (HT.out.drewN n1)
  have HU2 := Lib.hid (HU.out.drewN n1)
  generalize w2.drewN n1 = W1 at HT2 HU2 ⊢
  clear c0 c1 c2 c3 c4 c5 c6 c7 c8 cf HT HU
  obtain ⟨c0, c1, c2, c3, c4, c5, c6, c7, c8, cf⟩ := HT2.out.nd.cells
  simp only [] at c0 c1 c2 c3 c4 c5 c6 c7 c8
  have HT := HT2
  have HU := HU2
  clear HT2 HU2
  go_upto_region 6 with (fail)
  refine region_gen (Rd W1) (by kernel_rfl) (by kernel_rfl) (Rd.start _) ?_
  repeat
    (refine step_gen (by decide) (by rfl) (fun K hK => ?_)
     go_simp
     first
       | (with_reducible refine Sk.of Rd.skips ?_
          refine hK _ _ _ ?_
          clear hK K)
       | (with_reducible apply H1.one
          · intro σ wv hk hd hv
            obtain ⟨⟨m_, rfl⟩⟩ := hv
            go_simp
            (with_reducible refine ⟨rfl, ?_⟩)
            exact ⟨m_, rfl⟩
          refine hK _ _ _ ?_
          clear hK K))
  refine nil_gen ?_
  rintro σ wv - - ⟨⟨n2, rfl⟩⟩
  clear σ
  have HT2 := Lib.hid (HT.out.drewN n2)
  have HU2 := Lib.hid (HU.out.drewN n2)
  generalize W1.drewN n2 = W2 at HT2 HU2 ⊢
  clear c0 c1 c2 c3 c4 c5 c6 c7 c8 cf HT HU
  obtain ⟨c0, c1, c2, c3, c4, c5, c6, c7, c8, cf⟩ := HT2.out.nd.cells
  simp only [] at c0 c1 c2 c3 c4 c5 c6 c7 c8
  have HT := HT2
  have HU := HU2
  clear HT2 HU2
  go_upto_region 7 with (fail)
  have H3 := HT
  have HV := HU
  clear c0 c1 c2 c3 c4 c5 c6 c7 c8 cf HT HU
  go_wp2_with (go_at_call 33; (with_reducible refine (nturn H3.out.nd 3).mono ?_); rintro e' w4 ⟨rfl, HR⟩)
  go_end0
  obtain ⟨hd2, hm2⟩ := HR
  exact ⟨rfl, v, H3.out.node hd2 hm2 rfl, HV.out.trans hm2.stp⟩
set_option maxHeartbeats 4000000 in
theorem ntick1n {w : World} {P D S n : Nat} {v : Value} {self wait lead term ticks : Int} {ws : List Wd} {xs : List Int} {every limit left : Int} (h : PAt w P D S v ⟨⟨n, self, wait, 1, lead, term, ticks, ws⟩, xs, every, limit, left⟩)
    (hx : ∀ i (hi : i < xs.length), 0 ≤ xs[i] ∧ xs[i] ≤ 1000000) (hl0 : -1000000 ≤ left) (hl1 : left ≤ 1000000) (ht0 : 0 ≤ ticks) (ht1 : ticks ≤ 900000) (hw0 : 1 ≤ wait) (hw1 : wait ≤ 100)
    (hn0 : 0 ≤ self) (hn1 : self < n) (hn8 : n ≤ 8) (hws : ws.length ≤ 1048500) (hq : ¬ ticks + 1 = wait) :
    Calls Try.prog 8 #[.pointer (some ⟨P, 0, none⟩)] w fun e w' => e = .returned (.tuple #[]) ∧ ∃ u, PAt w' P D S u ⟨⟨n, self, wait, 1, lead, term, ticks + 1, ws⟩, tickL self limit xs, every, limit, tickLeft every left⟩ ∧ Stp (fp P D S v) (fp P D S u) w w' := by
  obtain ⟨c0, c1, c2, c3, c4, c5, c6, c7, c8, cf⟩ := h.nd.cells
  have hwt : wrap64 (ticks + 1) = ticks + 1 := wrap64_mid (by omega) (by omega)
  have hwd : wrap64 (2 * wait) = 2 * wait := wrap64_mid (by omega) (by omega)
  have HD := Lib.hid (And.intro h.dt (And.intro hx (And.intro hl0 hl1)))
  have HB := Lib.hid (And.intro hn0 (And.intro hn1 (And.intro hn8 hws)))
  have H0 := Lib.hid h
  clear h hx hl0 hl1 ht0 ht1 hw0 hw1 hn0 hn1 hn8 hws
  go_enter Try.func8, Try.ntmps8
  go_upto_region 1 with (go_at_call 29; (with_reducible refine (tick_any HD.out.1 HD.out.2.1 HD.out.2.2.1 HD.out.2.2.2).mono ?_); rintro e' w1 ⟨rfl, hd1, hk1⟩)
  have hA := H0.out.det hd1 hk1
  have HS := Lib.hid (PAt.stpD (P := P) (v := v) hk1)
  obtain ⟨c0, c1, c2, c3, c4, c5, c6, c7, c8, cf⟩ := hA.nd.cells
  have HA := Lib.hid hA
  clear hA hd1 hk1
  have hqb : (ticks + 1 == wait) = false := by simp [hq]
  clear hq
  go_upto_region 2 with (fail)
  have HT := Lib.hid (HA.out.setT (ticks + 1))
  have HU := Lib.hid (HS.out.trans (show Stp (fp P D S v) (fp P D S v) w1 (w1.setCell ⟨P, 6, none⟩ (.int .i64 (ticks + 1))) from ((Mv.refl P v w1).set 6 (.int .i64 (ticks + 1))).stp))
  generalize (w1.setCell ⟨P, 6, none⟩ (.int .i64 (ticks + 1))) = w2 at HT HU ⊢
  clear c0 c1 c2 c3 c4 c5 c6 c7 c8 cf HA HS
  obtain ⟨c0, c1, c2, c3, c4, c5, c6, c7, c8, cf⟩ := HT.out.nd.cells
  simp only [] at c0 c1 c2 c3 c4 c5 c6 c7 c8
  go_upto_region 4 with (fail)
  refine region_gen (Rd w2) (by kernel_rfl) (by kernel_rfl) (Rd.start _) ?_
  repeat
    (refine step_gen (by decide) (by rfl) (fun K hK => ?_)
     go_simp
     first
       | (with_reducible refine Sk.of Rd.skips ?_
          refine hK _ _ _ ?_
          clear hK K)
       | (with_reducible apply H1.one
          · intro σ wv hk hd hv
            obtain ⟨⟨m_, rfl⟩⟩ := hv
            go_simp
            (with_reducible refine ⟨rfl, ?_⟩)
            exact ⟨m_, rfl⟩
          refine hK _ _ _ ?_
          clear hK K))
  refine nil_gen ?_
  rintro σ wv - - ⟨⟨n1, rfl⟩⟩
  clear σ
  have HT2 := Lib.hid (HT.out.drewN n1)
  have HU2 := Lib.hid (HU.out.drewN n1)
  generalize w2.drewN n1 = W1 at HT2 HU2 ⊢
  clear c0 c1 c2 c3 c4 c5 c6 c7 c8 cf HT HU
  obtain ⟨c0, c1, c2, c3, c4, c5, c6, c7, c8, cf⟩ := HT2.out.nd.cells
  simp only [] at c0 c1 c2 c3 c4 c5 c6 c7 c8
  have HT := HT2
  have HU := HU2
  clear HT2 HU2
  go_upto_region 6 with (fail)
  refine region_gen (Rd W1) (by kernel_rfl) (by kernel_rfl) (Rd.start _) ?_
  repeat
    (refine step_gen (by decide) (by rfl) (fun K hK => ?_)
     go_simp
     first
       | (with_reducible refine Sk.of Rd.skips ?_
          refine hK _ _ _ ?_
          clear hK K)
       | (with_reducible apply H1.one
          · intro σ wv hk hd hv
            obtain ⟨⟨m_, rfl⟩⟩ := hv
            go_simp
            (with_reducible refine ⟨rfl, ?_⟩)
            exact ⟨m_, rfl⟩
          refine hK _ _ _ ?_
          clear hK K))
  refine nil_gen ?_
  rintro σ wv - - ⟨⟨n2, rfl⟩⟩
  clear σ
  have HT2 := Lib.hid (HT.out.drewN n2)
  have HU2 := Lib.hid (HU.out.drewN n2)
  generalize W1.drewN n2 = W2 at HT2 HU2 ⊢
  clear c0 c1 c2 c3 c4 c5 c6 c7 c8 cf HT HU
  obtain ⟨c0, c1, c2, c3, c4, c5, c6, c7, c8, cf⟩ := HT2.out.nd.cells
  simp only [] at c0 c1 c2 c3 c4 c5 c6 c7 c8
  have HT := HT2
  have HU := HU2
  clear HT2 HU2
  go_upto_region 8 with (fail)
  refine region_gen (Rd W2) (by kernel_rfl) (by kernel_rfl) (Rd.start _) ?_
  repeat
    (refine step_gen (by decide) (by rfl) (fun K hK => ?_)
     go_simp
     first
       | (with_reducible refine Sk.of Rd.skips ?_
          refine hK _ _ _ ?_
          clear hK K)
       | (with_reducible apply H1.one
          · intro σ wv hk hd hv
            obtain ⟨⟨m_, rfl⟩⟩ := hv
            go_simp
            (with_reducible refine ⟨rfl, ?_⟩)
            exact ⟨m_, rfl⟩
          refine hK _ _ _ ?_
          clear hK K))
  refine nil_gen ?_
  rintro σ wv - - ⟨⟨n3, rfl⟩⟩
  clear σ
  have HT2 := Lib.hid (HT.out.drewN n3)
  have HU2 := Lib.hid (HU.out.drewN n3)
  generalize W2.drewN n3 = W3 at HT2 HU2 ⊢
  clear c0 c1 c2 c3 c4 c5 c6 c7 c8 cf HT HU
  obtain ⟨c0, c1, c2, c3, c4, c5, c6, c7, c8, cf⟩ := HT2.out.nd.cells
  simp only [] at c0 c1 c2 c3 c4 c5 c6 c7 c8
  have HT := HT2
  have HU := HU2
  clear HT2 HU2
  go_wp2
  go_end0
  exact ⟨rfl, v, HT.out, HU.out⟩
set_option maxHeartbeats 4000000 in
theorem ntick2y {w : World} {P D S n : Nat} {v : Value} {self wait lead term ticks : Int} {ws : List Wd} {xs : List Int} {every limit left : Int} (h : PAt w P D S v ⟨⟨n, self, wait, 2, lead, term, ticks, ws⟩, xs, every, limit, left⟩)
    (hx : ∀ i (hi : i < xs.length), 0 ≤ xs[i] ∧ xs[i] ≤ 1000000) (hl0 : -1000000 ≤ left) (hl1 : left ≤ 1000000) (ht0 : 0 ≤ ticks) (ht1 : ticks ≤ 900000) (hw0 : 1 ≤ wait) (hw1 : wait ≤ 100)
    (hn0 : 0 ≤ self) (hn1 : self < n) (hn8 : n ≤ 8) (hws : ws.length ≤ 1048500) (hq : ticks + 1 = 2 * wait) :
    Calls Try.prog 8 #[.pointer (some ⟨P, 0, none⟩)] w fun e w' => e = .returned (.tuple #[]) ∧ ∃ u, PAt w' P D S u ⟨Nd.ask ⟨n, self, wait, 2, lead, term, ticks + 1, ws⟩, tickL self limit xs, every, limit, tickLeft every left⟩ ∧ Stp (fp P D S v) (fp P D S u) w w' := by
  obtain ⟨c0, c1, c2, c3, c4, c5, c6, c7, c8, cf⟩ := h.nd.cells
  have hwt : wrap64 (ticks + 1) = ticks + 1 := wrap64_mid (by omega) (by omega)
  have hwd : wrap64 (2 * wait) = 2 * wait := wrap64_mid (by omega) (by omega)
  have HD := Lib.hid (And.intro h.dt (And.intro hx (And.intro hl0 hl1)))
  have HB := Lib.hid (And.intro hn0 (And.intro hn1 (And.intro hn8 hws)))
  have H0 := Lib.hid h
  clear h hx hl0 hl1 ht0 ht1 hw0 hw1 hn0 hn1 hn8 hws
  go_enter Try.func8, Try.ntmps8
  go_upto_region 1 with (go_at_call 29; (with_reducible refine (tick_any HD.out.1 HD.out.2.1 HD.out.2.2.1 HD.out.2.2.2).mono ?_); rintro e' w1 ⟨rfl, hd1, hk1⟩)
  have hA := H0.out.det hd1 hk1
  have HS := Lib.hid (PAt.stpD (P := P) (v := v) hk1)
  obtain ⟨c0, c1, c2, c3, c4, c5, c6, c7, c8, cf⟩ := hA.nd.cells
  have HA := Lib.hid hA
  clear hA hd1 hk1
  have hwe : IntKind.i64.wrap (2 * wait) = ticks + 1 := by rw [IntWalk.i64_left]; exact hwd.trans hq.symm
  clear hq hwd
  go_upto_region 2 with (fail)
  have HT := Lib.hid (HA.out.setT (ticks + 1))
  have HU := Lib.hid (HS.out.trans (show Stp (fp P D S v) (fp P D S v) w1 (w1.setCell ⟨P, 6, none⟩ (.int .i64 (ticks + 1))) from ((Mv.refl P v w1).set 6 (.int .i64 (ticks + 1))).stp))
  generalize (w1.setCell ⟨P, 6, none⟩ (.int .i64 (ticks + 1))) = w2 at HT HU ⊢
  clear c0 c1 c2 c3 c4 c5 c6 c7 c8 cf HA HS
  obtain ⟨c0, c1, c2, c3, c4, c5, c6, c7, c8, cf⟩ := HT.out.nd.cells
  simp only [] at c0 c1 c2 c3 c4 c5 c6 c7 c8
  go_upto_region 4 with (fail)
  refine region_gen (Rd w2) (by kernel_rfl) (by kernel_rfl) (Rd.start _) ?_
  repeat
    (refine step_gen (by decide) (by rfl) (fun K hK => ?_)
     go_simp
     first
       | (with_reducible refine Sk.of Rd.skips ?_
          refine hK _ _ _ ?_
          clear hK K)
       | (with_reducible apply H1.one
          · intro σ wv hk hd hv
            obtain ⟨⟨m_, rfl⟩⟩ := hv
            go_simp
            (with_reducible refine ⟨rfl, ?_⟩)
            exact ⟨m_, rfl⟩
          refine hK _ _ _ ?_
          clear hK K))
  refine nil_gen ?_
  rintro σ wv - - ⟨⟨n1, rfl⟩⟩
  clear σ
  have HT2 := Lib.hid (HT.out.drewN n1)
  have HU2 := Lib.hid (HU.out.drewN n1)
  generalize w2.drewN n1 = W1 at HT2 HU2 ⊢
  clear c0 c1 c2 c3 c4 c5 c6 c7 c8 cf HT HU
  obtain ⟨c0, c1, c2, c3, c4, c5, c6, c7, c8, cf⟩ := HT2.out.nd.cells
  simp only [] at c0 c1 c2 c3 c4 c5 c6 c7 c8
  have HT := HT2
  have HU := HU2
  clear HT2 HU2
  go_upto_region 6 with (fail)
  refine region_gen (Rd W1) (by kernel_rfl) (by kernel_rfl) (Rd.start _) ?_
  repeat
    (refine step_gen (by decide) (by rfl) (fun K hK => ?_)
     go_simp
     first
       | (with_reducible refine Sk.of Rd.skips ?_
          refine hK _ _ _ ?_
          clear hK K)
       | (with_reducible apply H1.one
          · intro σ wv hk hd hv
            obtain ⟨⟨m_, rfl⟩⟩ := hv
            go_simp
            (with_reducible refine ⟨rfl, ?_⟩)
            exact ⟨m_, rfl⟩
          refine hK _ _ _ ?_
          clear hK K))
  refine nil_gen ?_
  rintro σ wv - - ⟨⟨n2, rfl⟩⟩
  clear σ
  have HT2 := Lib.hid (HT.out.drewN n2)
  have HU2 := Lib.hid (HU.out.drewN n2)
  generalize W1.drewN n2 = W2 at HT2 HU2 ⊢
  clear c0 c1 c2 c3 c4 c5 c6 c7 c8 cf HT HU
  obtain ⟨c0, c1, c2, c3, c4, c5, c6, c7, c8, cf⟩ := HT2.out.nd.cells
  simp only [] at c0 c1 c2 c3 c4 c5 c6 c7 c8
  have HT := HT2
  have HU := HU2
  clear HT2 HU2
  go_upto_region 8 with (fail)
  refine region_gen (Rd W2) (by kernel_rfl) (by kernel_rfl) (Rd.start _) ?_
  repeat
    (refine step_gen (by decide) (by rfl) (fun K hK => ?_)
     go_simp
     first
       | (with_reducible refine Sk.of Rd.skips ?_
          refine hK _ _ _ ?_
          clear hK K)
       | (with_reducible apply H1.one
          · intro σ wv hk hd hv
            obtain ⟨⟨m_, rfl⟩⟩ := hv
            go_simp
            (with_reducible refine ⟨rfl, ?_⟩)
            exact ⟨m_, rfl⟩
          refine hK _ _ _ ?_
          clear hK K))
  refine nil_gen ?_
  rintro σ wv - - ⟨⟨n3, rfl⟩⟩
  clear σ
  have HT2 := Lib.hid (HT.out.drewN n3)
  have HU2 := Lib.hid (HU.out.drewN n3)
  generalize W2.drewN n3 = W3 at HT2 HU2 ⊢
  clear c0 c1 c2 c3 c4 c5 c6 c7 c8 cf HT HU
  obtain ⟨c0, c1, c2, c3, c4, c5, c6, c7, c8, cf⟩ := HT2.out.nd.cells
  simp only [] at c0 c1 c2 c3 c4 c5 c6 c7 c8
  have HT := HT2
  have HU := HU2
  clear HT2 HU2
  go_upto_region 9 with (fail)
  have H3 := HT
  have HV := HU
  clear c0 c1 c2 c3 c4 c5 c6 c7 c8 cf HT HU
  go_wp2_with (go_at_call 32; (with_reducible refine (ask_any (show NodeAt 69 35 _ P ⟨n, self, wait, 2, lead, term, ticks + 1, ws⟩ (ptr D) v from H3.out.nd) HB.out.1 HB.out.2.1 (by have := HB.out.2.2.1; omega) HB.out.2.2.2).mono ?_); rintro e' w4 ⟨rfl, HR⟩)
  go_end0
  obtain ⟨u, hd2, hm2⟩ := HR
  exact ⟨rfl, u, H3.out.node hd2 hm2 (Nd.ask_self _), HV.out.trans hm2.stp⟩
set_option maxHeartbeats 4000000 in
theorem ntick2n {w : World} {P D S n : Nat} {v : Value} {self wait lead term ticks : Int} {ws : List Wd} {xs : List Int} {every limit left : Int} (h : PAt w P D S v ⟨⟨n, self, wait, 2, lead, term, ticks, ws⟩, xs, every, limit, left⟩)
    (hx : ∀ i (hi : i < xs.length), 0 ≤ xs[i] ∧ xs[i] ≤ 1000000) (hl0 : -1000000 ≤ left) (hl1 : left ≤ 1000000) (ht0 : 0 ≤ ticks) (ht1 : ticks ≤ 900000) (hw0 : 1 ≤ wait) (hw1 : wait ≤ 100)
    (hn0 : 0 ≤ self) (hn1 : self < n) (hn8 : n ≤ 8) (hws : ws.length ≤ 1048500) (hq : ¬ ticks + 1 = 2 * wait) :
    Calls Try.prog 8 #[.pointer (some ⟨P, 0, none⟩)] w fun e w' => e = .returned (.tuple #[]) ∧ ∃ u, PAt w' P D S u ⟨⟨n, self, wait, 2, lead, term, ticks + 1, ws⟩, tickL self limit xs, every, limit, tickLeft every left⟩ ∧ Stp (fp P D S v) (fp P D S u) w w' := by
  obtain ⟨c0, c1, c2, c3, c4, c5, c6, c7, c8, cf⟩ := h.nd.cells
  have hwt : wrap64 (ticks + 1) = ticks + 1 := wrap64_mid (by omega) (by omega)
  have hwd : wrap64 (2 * wait) = 2 * wait := wrap64_mid (by omega) (by omega)
  have HD := Lib.hid (And.intro h.dt (And.intro hx (And.intro hl0 hl1)))
  have HB := Lib.hid (And.intro hn0 (And.intro hn1 (And.intro hn8 hws)))
  have H0 := Lib.hid h
  clear h hx hl0 hl1 ht0 ht1 hw0 hw1 hn0 hn1 hn8 hws
  go_enter Try.func8, Try.ntmps8
  go_upto_region 1 with (go_at_call 29; (with_reducible refine (tick_any HD.out.1 HD.out.2.1 HD.out.2.2.1 HD.out.2.2.2).mono ?_); rintro e' w1 ⟨rfl, hd1, hk1⟩)
  have hA := H0.out.det hd1 hk1
  have HS := Lib.hid (PAt.stpD (P := P) (v := v) hk1)
  obtain ⟨c0, c1, c2, c3, c4, c5, c6, c7, c8, cf⟩ := hA.nd.cells
  have HA := Lib.hid hA
  clear hA hd1 hk1
  have hwe : IntKind.i64.wrap (2 * wait) = 2 * wait := by rw [IntWalk.i64_left]; exact hwd
  have hqb : (ticks + 1 == 2 * wait) = false := by simp [hq]
  clear hq
  go_upto_region 2 with (fail)
  have HT := Lib.hid (HA.out.setT (ticks + 1))
  have HU := Lib.hid (HS.out.trans (show Stp (fp P D S v) (fp P D S v) w1 (w1.setCell ⟨P, 6, none⟩ (.int .i64 (ticks + 1))) from ((Mv.refl P v w1).set 6 (.int .i64 (ticks + 1))).stp))
  generalize (w1.setCell ⟨P, 6, none⟩ (.int .i64 (ticks + 1))) = w2 at HT HU ⊢
  clear c0 c1 c2 c3 c4 c5 c6 c7 c8 cf HA HS
  obtain ⟨c0, c1, c2, c3, c4, c5, c6, c7, c8, cf⟩ := HT.out.nd.cells
  simp only [] at c0 c1 c2 c3 c4 c5 c6 c7 c8
  go_upto_region 4 with (fail)
  refine region_gen (Rd w2) (by kernel_rfl) (by kernel_rfl) (Rd.start _) ?_
  repeat
    (refine step_gen (by decide) (by rfl) (fun K hK => ?_)
     go_simp
     first
       | (with_reducible refine Sk.of Rd.skips ?_
          refine hK _ _ _ ?_
          clear hK K)
       | (with_reducible apply H1.one
          · intro σ wv hk hd hv
            obtain ⟨⟨m_, rfl⟩⟩ := hv
            go_simp
            (with_reducible refine ⟨rfl, ?_⟩)
            exact ⟨m_, rfl⟩
          refine hK _ _ _ ?_
          clear hK K))
  refine nil_gen ?_
  rintro σ wv - - ⟨⟨n1, rfl⟩⟩
  clear σ
  have HT2 := Lib.hid (HT.out.drewN n1)
  have HU2 := Lib.hid (HU.out.drewN n1)
  generalize w2.drewN n1 = W1 at HT2 HU2 ⊢
  clear c0 c1 c2 c3 c4 c5 c6 c7 c8 cf HT HU
  obtain ⟨c0, c1, c2, c3, c4, c5, c6, c7, c8, cf⟩ := HT2.out.nd.cells
  simp only [] at c0 c1 c2 c3 c4 c5 c6 c7 c8
  have HT := HT2
  have HU := HU2
  clear HT2 HU2
  go_upto_region 6 with (fail)
  refine region_gen (Rd W1) (by kernel_rfl) (by kernel_rfl) (Rd.start _) ?_
  repeat
    (refine step_gen (by decide) (by rfl) (fun K hK => ?_)
     go_simp
     first
       | (with_reducible refine Sk.of Rd.skips ?_
          refine hK _ _ _ ?_
          clear hK K)
       | (with_reducible apply H1.one
          · intro σ wv hk hd hv
            obtain ⟨⟨m_, rfl⟩⟩ := hv
            go_simp
            (with_reducible refine ⟨rfl, ?_⟩)
            exact ⟨m_, rfl⟩
          refine hK _ _ _ ?_
          clear hK K))
  refine nil_gen ?_
  rintro σ wv - - ⟨⟨n2, rfl⟩⟩
  clear σ
  have HT2 := Lib.hid (HT.out.drewN n2)
  have HU2 := Lib.hid (HU.out.drewN n2)
  generalize W1.drewN n2 = W2 at HT2 HU2 ⊢
  clear c0 c1 c2 c3 c4 c5 c6 c7 c8 cf HT HU
  obtain ⟨c0, c1, c2, c3, c4, c5, c6, c7, c8, cf⟩ := HT2.out.nd.cells
  simp only [] at c0 c1 c2 c3 c4 c5 c6 c7 c8
  have HT := HT2
  have HU := HU2
  clear HT2 HU2
  go_upto_region 8 with (fail)
  refine region_gen (Rd W2) (by kernel_rfl) (by kernel_rfl) (Rd.start _) ?_
  repeat
    (refine step_gen (by decide) (by rfl) (fun K hK => ?_)
     go_simp
     first
       | (with_reducible refine Sk.of Rd.skips ?_
          refine hK _ _ _ ?_
          clear hK K)
       | (with_reducible apply H1.one
          · intro σ wv hk hd hv
            obtain ⟨⟨m_, rfl⟩⟩ := hv
            go_simp
            (with_reducible refine ⟨rfl, ?_⟩)
            exact ⟨m_, rfl⟩
          refine hK _ _ _ ?_
          clear hK K))
  refine nil_gen ?_
  rintro σ wv - - ⟨⟨n3, rfl⟩⟩
  clear σ
  have HT2 := Lib.hid (HT.out.drewN n3)
  have HU2 := Lib.hid (HU.out.drewN n3)
  generalize W2.drewN n3 = W3 at HT2 HU2 ⊢
  clear c0 c1 c2 c3 c4 c5 c6 c7 c8 cf HT HU
  obtain ⟨c0, c1, c2, c3, c4, c5, c6, c7, c8, cf⟩ := HT2.out.nd.cells
  simp only [] at c0 c1 c2 c3 c4 c5 c6 c7 c8
  have HT := HT2
  have HU := HU2
  clear HT2 HU2
  go_wp2
  go_end0
  exact ⟨rfl, v, HT.out, HU.out⟩
set_option maxHeartbeats 4000000 in
theorem ntickr {w : World} {P D S n : Nat} {v : Value} {self wait role lead term ticks : Int} {ws : List Wd} {xs : List Int} {every limit left : Int} (h : PAt w P D S v ⟨⟨n, self, wait, role, lead, term, ticks, ws⟩, xs, every, limit, left⟩)
    (hx : ∀ i (hi : i < xs.length), 0 ≤ xs[i] ∧ xs[i] ≤ 1000000) (hl0 : -1000000 ≤ left) (hl1 : left ≤ 1000000) (ht0 : 0 ≤ ticks) (ht1 : ticks ≤ 900000) (hw0 : 1 ≤ wait) (hw1 : wait ≤ 100)
    (hn0 : 0 ≤ self) (hn1 : self < n) (hn8 : n ≤ 8) (hws : ws.length ≤ 1048500) (hr : role ≠ 0 ∧ role ≠ 1 ∧ role ≠ 2 ∧ role ≠ 4) :
    Calls Try.prog 8 #[.pointer (some ⟨P, 0, none⟩)] w fun e w' => e = .returned (.tuple #[]) ∧ ∃ u, PAt w' P D S u ⟨⟨n, self, wait, role, lead, term, ticks + 1, ws⟩, tickL self limit xs, every, limit, tickLeft every left⟩ ∧ Stp (fp P D S v) (fp P D S u) w w' := by
  obtain ⟨c0, c1, c2, c3, c4, c5, c6, c7, c8, cf⟩ := h.nd.cells
  have hwt : wrap64 (ticks + 1) = ticks + 1 := wrap64_mid (by omega) (by omega)
  have hwd : wrap64 (2 * wait) = 2 * wait := wrap64_mid (by omega) (by omega)
  have HD := Lib.hid (And.intro h.dt (And.intro hx (And.intro hl0 hl1)))
  have HB := Lib.hid (And.intro hn0 (And.intro hn1 (And.intro hn8 hws)))
  have H0 := Lib.hid h
  clear h hx hl0 hl1 ht0 ht1 hw0 hw1 hn0 hn1 hn8 hws
  go_enter Try.func8, Try.ntmps8
  go_upto_region 1 with (go_at_call 29; (with_reducible refine (tick_any HD.out.1 HD.out.2.1 HD.out.2.2.1 HD.out.2.2.2).mono ?_); rintro e' w1 ⟨rfl, hd1, hk1⟩)
  have hA := H0.out.det hd1 hk1
  have HS := Lib.hid (PAt.stpD (P := P) (v := v) hk1)
  obtain ⟨c0, c1, c2, c3, c4, c5, c6, c7, c8, cf⟩ := hA.nd.cells
  have HA := Lib.hid hA
  clear hA hd1 hk1
  have q0 : (role == 0) = false := by simp; omega
  have q1 : (role == 1) = false := by simp; omega
  have q2 : (role == 2) = false := by simp; omega
  have q4 : (role == 4) = false := by simp; omega
  go_upto_region 2 with (fail)
  have HT := Lib.hid (HA.out.setT (ticks + 1))
  have HU := Lib.hid (HS.out.trans (show Stp (fp P D S v) (fp P D S v) w1 (w1.setCell ⟨P, 6, none⟩ (.int .i64 (ticks + 1))) from ((Mv.refl P v w1).set 6 (.int .i64 (ticks + 1))).stp))
  generalize (w1.setCell ⟨P, 6, none⟩ (.int .i64 (ticks + 1))) = w2 at HT HU ⊢
  clear c0 c1 c2 c3 c4 c5 c6 c7 c8 cf HA HS
  obtain ⟨c0, c1, c2, c3, c4, c5, c6, c7, c8, cf⟩ := HT.out.nd.cells
  simp only [] at c0 c1 c2 c3 c4 c5 c6 c7 c8
  go_upto_region 4 with (fail)
  refine region_gen (Rd w2) (by kernel_rfl) (by kernel_rfl) (Rd.start _) ?_
  repeat
    (refine step_gen (by decide) (by rfl) (fun K hK => ?_)
     go_simp
     first
       | (with_reducible refine Sk.of Rd.skips ?_
          refine hK _ _ _ ?_
          clear hK K)
       | (with_reducible apply H1.one
          · intro σ wv hk hd hv
            obtain ⟨⟨m_, rfl⟩⟩ := hv
            go_simp
            (with_reducible refine ⟨rfl, ?_⟩)
            exact ⟨m_, rfl⟩
          refine hK _ _ _ ?_
          clear hK K))
  refine nil_gen ?_
  rintro σ wv - - ⟨⟨n1, rfl⟩⟩
  clear σ
  have HT2 := Lib.hid (HT.out.drewN n1)
  have HU2 := Lib.hid (HU.out.drewN n1)
  generalize w2.drewN n1 = W1 at HT2 HU2 ⊢
  clear c0 c1 c2 c3 c4 c5 c6 c7 c8 cf HT HU
  obtain ⟨c0, c1, c2, c3, c4, c5, c6, c7, c8, cf⟩ := HT2.out.nd.cells
  simp only [] at c0 c1 c2 c3 c4 c5 c6 c7 c8
  have HT := HT2
  have HU := HU2
  clear HT2 HU2
  go_upto_region 6 with (fail)
  refine region_gen (Rd W1) (by kernel_rfl) (by kernel_rfl) (Rd.start _) ?_
  repeat
    (refine step_gen (by decide) (by rfl) (fun K hK => ?_)
     go_simp
     first
       | (with_reducible refine Sk.of Rd.skips ?_
          refine hK _ _ _ ?_
          clear hK K)
       | (with_reducible apply H1.one
          · intro σ wv hk hd hv
            obtain ⟨⟨m_, rfl⟩⟩ := hv
            go_simp
            (with_reducible refine ⟨rfl, ?_⟩)
            exact ⟨m_, rfl⟩
          refine hK _ _ _ ?_
          clear hK K))
  refine nil_gen ?_
  rintro σ wv - - ⟨⟨n2, rfl⟩⟩
  clear σ
  have HT2 := Lib.hid (HT.out.drewN n2)
  have HU2 := Lib.hid (HU.out.drewN n2)
  generalize W1.drewN n2 = W2 at HT2 HU2 ⊢
  clear c0 c1 c2 c3 c4 c5 c6 c7 c8 cf HT HU
  obtain ⟨c0, c1, c2, c3, c4, c5, c6, c7, c8, cf⟩ := HT2.out.nd.cells
  simp only [] at c0 c1 c2 c3 c4 c5 c6 c7 c8
  have HT := HT2
  have HU := HU2
  clear HT2 HU2
  go_upto_region 8 with (fail)
  refine region_gen (Rd W2) (by kernel_rfl) (by kernel_rfl) (Rd.start _) ?_
  repeat
    (refine step_gen (by decide) (by rfl) (fun K hK => ?_)
     go_simp
     first
       | (with_reducible refine Sk.of Rd.skips ?_
          refine hK _ _ _ ?_
          clear hK K)
       | (with_reducible apply H1.one
          · intro σ wv hk hd hv
            obtain ⟨⟨m_, rfl⟩⟩ := hv
            go_simp
            (with_reducible refine ⟨rfl, ?_⟩)
            exact ⟨m_, rfl⟩
          refine hK _ _ _ ?_
          clear hK K))
  refine nil_gen ?_
  rintro σ wv - - ⟨⟨n3, rfl⟩⟩
  clear σ
  have HT2 := Lib.hid (HT.out.drewN n3)
  have HU2 := Lib.hid (HU.out.drewN n3)
  generalize W2.drewN n3 = W3 at HT2 HU2 ⊢
  clear c0 c1 c2 c3 c4 c5 c6 c7 c8 cf HT HU
  obtain ⟨c0, c1, c2, c3, c4, c5, c6, c7, c8, cf⟩ := HT2.out.nd.cells
  simp only [] at c0 c1 c2 c3 c4 c5 c6 c7 c8
  have HT := HT2
  have HU := HU2
  clear HT2 HU2
  go_wp2
  go_end0
  exact ⟨rfl, v, HT.out, HU.out⟩
/-- A tick of the program's node. -/
theorem ntick_any {w : World} {P D S n : Nat} {v : Value} {s : PN} (h : PAt w P D S v s) (hn : s.x.n = n)
    (hx : ∀ i (hi : i < s.xs.length), 0 ≤ s.xs[i] ∧ s.xs[i] ≤ 1000000) (hl0 : -1000000 ≤ s.left) (hl1 : s.left ≤ 1000000) (ht0 : 0 ≤ s.x.ticks) (ht1 : s.x.ticks ≤ 900000) (hw0 : 1 ≤ s.x.wait) (hw1 : s.x.wait ≤ 100)
    (hn0 : 0 ≤ s.x.self) (hn1 : s.x.self < n) (hn8 : n ≤ 8) (hws : s.x.ws.length ≤ 1048500) :
    Calls Try.prog 8 #[.pointer (some ⟨P, 0, none⟩)] w fun e w' => e = .returned (.tuple #[]) ∧ ∃ u, PAt w' P D S u (s.tick n) ∧ Stp (fp P D S v) (fp P D S u) w w' := by
  obtain ⟨⟨n0, self, wait, role, lead, term, ticks, ws⟩, xs, every, limit, left⟩ := s
  simp only at hn hx hl0 hl1 ht0 ht1 hw0 hw1 hn0 hn1 hws
  subst hn
  by_cases h4 : role = 4
  · subst h4
    cases hb : tickB left
    · have e := ntick4n h hx hl0 hl1 ht0 ht1 hw0 hw1 hn0 hn1 hn8 hws hb
      simpa [PN.tick, Nd.tick, hb] using e
    · have e := ntick4y h hx hl0 hl1 ht0 ht1 hw0 hw1 hn0 hn1 hn8 hws hb
      simpa [PN.tick, Nd.tick, hb] using e
  by_cases h0 : role = 0
  · subst h0
    cases ha : aliveB (tickL self limit xs) limit lead
    · have e := ntick0n h hx hl0 hl1 ht0 ht1 hw0 hw1 hn0 hn1 hn8 hws ha
      simpa [PN.tick, Nd.tick, ha] using e
    · have e := ntick0y h hx hl0 hl1 ht0 ht1 hw0 hw1 hn0 hn1 hn8 hws ha
      simpa [PN.tick, Nd.tick, ha] using e
  by_cases h1 : role = 1
  · subst h1
    by_cases hq : ticks + 1 = wait
    · have e := ntick1y h hx hl0 hl1 ht0 ht1 hw0 hw1 hn0 hn1 hn8 hws hq
      simpa [PN.tick, Nd.tick, hq] using e
    · have e := ntick1n h hx hl0 hl1 ht0 ht1 hw0 hw1 hn0 hn1 hn8 hws hq
      simpa [PN.tick, Nd.tick, hq] using e
  by_cases h2 : role = 2
  · subst h2
    by_cases hq : ticks + 1 = 2 * wait
    · have e := ntick2y h hx hl0 hl1 ht0 ht1 hw0 hw1 hn0 hn1 hn8 hws hq
      simpa [PN.tick, Nd.tick, hq] using e
    · have e := ntick2n h hx hl0 hl1 ht0 ht1 hw0 hw1 hn0 hn1 hn8 hws hq
      simpa [PN.tick, Nd.tick, hq] using e
  have e := ntickr h hx hl0 hl1 ht0 ht1 hw0 hw1 hn0 hn1 hn8 hws ⟨h0, h1, h2, h4⟩
  simpa [PN.tick, Nd.tick, h0, h1, h2, h4] using e
end Go.Proofs.Ytccmnphjiebiaaa
