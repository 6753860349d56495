/- The reference's node's tick. Conditions: the node and its detector lie whole in memory; their numbers are within bounds. -/
import Derived.Test.YtccmnphjiebiaaaSync
namespace Go.Proofs.Ytccmnphjiebiaaa
open Go.RowKit G
set_option linter.unusedVariables false
set_option linter.unusedSimpArgs false
attribute [local go_sem] upon_value upon_skip upon_enter runAt_run
def Nd.rtick (x : Nd) (n : Nat) (beats alive : Bool) : Nd :=
  if x.role = 4 ∧ beats = true then Nd.told x n
  else if x.role = 0 ∧ alive = false then Nd.ask x
  else if x.role = 1 then (if x.ticks + 1 = x.wait then { x with ticks := x.ticks + 1, role := 3 } else { x with ticks := x.ticks + 1 })
  else if x.role = 2 then (if x.ticks + 1 = 2 * x.wait then Nd.ask { x with ticks := x.ticks + 1 } else { x with ticks := x.ticks + 1 })
  else x
theorem RAt.setT {w : World} {P D n : Nat} {v : Value} {s : RN} (h : RAt w P D v n s) (t : Int) : RAt (w.setCell ⟨P, 6, none⟩ (.int .i64 t)) P D v n { s with x := { s.x with ticks := t } } :=
  h.node (x := { s.x with ticks := t }) ⟨(h.nd.r.set 6 _).cast (by simp [Nd.row]), own_set h.nd.s P 6 h.nd.nP _, h.nd.nP⟩ ((Mv.refl P v w).set 6 _) rfl
theorem RAt.setR {w : World} {P D n : Nat} {v : Value} {s : RN} (h : RAt w P D v n s) (t : Int) : RAt (w.setCell ⟨P, 3, none⟩ (.int .i64 t)) P D v n { s with x := { s.x with role := t } } :=
  h.node (h.nd.set3 t) ((Mv.refl P v w).set 3 _) rfl
set_option maxHeartbeats 4000000 in
theorem rtick4y {w : World} {P D n : Nat} {v : Value} {self wait lead term ticks : Int} {ws : List Wd} {every now : Nat} {limit : Int} {xs ats : List Int} (h : RAt w P D v n ⟨⟨n, self, wait, 4, lead, term, ticks, ws⟩, every, limit, now, ats⟩)
    (h1 : 1 ≤ every) (h2 : every ≤ 100) (h3 : now ≤ 990) (b : Bool) (hb : decide ((now + 1) % every = 0) = b) (hs : Sync xs ats n self limit (now + 1)) (ht0 : 0 ≤ ticks) (ht1 : ticks ≤ 900000) (hw0 : 1 ≤ wait) (hw1 : wait ≤ 100)
    (hn0 : 0 ≤ self) (hn1 : self < n) (hn8 : n ≤ 8) (hws : ws.length ≤ 1048500) (hv : b = true) :
    Calls Try.prog 9 #[.pointer (some ⟨P, 0, none⟩)] w fun e w' => e = .returned (.tuple #[]) ∧ ∃ u, RAt w' P D u n ⟨Nd.told ⟨n, self, wait, 4, lead, term, ticks, ws⟩ n, every, limit, now + 1, ats⟩ ∧ Stp (rfp P D v) (rfp P D u) w w' := by
  obtain ⟨c0, c1, c2, c3, c4, c5, c6, c7, c8, cf⟩ := h.nd.cells
  have hwt : wrap64 (ticks + 1) = ticks + 1 := wrap64_mid (by omega) (by omega)
  have hwd : wrap64 (2 * wait) = 2 * wait := wrap64_mid (by omega) (by omega)
  have HD := Lib.hid (And.intro h.dt (And.intro h1 (And.intro h2 (And.intro (show now ≤ 1000000 by omega) hb))))
  have HS := Lib.hid hs
  have HB := Lib.hid (And.intro hn0 (And.intro hn1 (And.intro hn8 hws)))
  have H0 := Lib.hid h
  clear h h1 h2 h3 hb hs ht0 ht1 hw0 hw1 hn0 hn1 hn8 hws
  go_enter Try.func9, Try.ntmps9
  go_upto_region 1 with (go_at_call 34; (with_reducible refine (rtick_any HD.out.1 HD.out.2.1 HD.out.2.2.1 HD.out.2.2.2.1 b HD.out.2.2.2.2).mono ?_); rintro e' w1 ⟨rfl, hd1, hk1⟩)
  have HT := Lib.hid (H0.out.det hd1 hk1)
  have HU := Lib.hid (RAt.stpD (P := P) (v := v) hk1)
  clear c0 c1 c2 c3 c4 c5 c6 c7 c8 cf hd1 hk1 HD H0
  obtain ⟨c0, c1, c2, c3, c4, c5, c6, c7, c8, cf⟩ := HT.out.nd.cells
  simp only [] at c0 c1 c2 c3 c4 c5 c6 c7 c8
  subst hv
  go_upto_region 4 with (fail)
  have H3 := HT
  have HV := HU
  clear c0 c1 c2 c3 c4 c5 c6 c7 c8 cf HT HU
  go_wp2_with (go_at_call 35; (with_reducible refine (rall_any (show NodeAt 52 31 _ P ⟨n, self, wait, 4, lead, term, ticks, ws⟩ (ptr D) v from H3.out.nd) HB.out.2.2.1 HB.out.2.2.2).mono ?_); rintro e' w4 ⟨rfl, HR⟩)
  go_end0
  obtain ⟨u, hd2, hm2⟩ := HR
  exact ⟨rfl, u, H3.out.node hd2 hm2 rfl, HV.out.trans hm2.rstp⟩
set_option maxHeartbeats 4000000 in
theorem rtick4n {w : World} {P D n : Nat} {v : Value} {self wait lead term ticks : Int} {ws : List Wd} {every now : Nat} {limit : Int} {xs ats : List Int} (h : RAt w P D v n ⟨⟨n, self, wait, 4, lead, term, ticks, ws⟩, every, limit, now, ats⟩)
    (h1 : 1 ≤ every) (h2 : every ≤ 100) (h3 : now ≤ 990) (b : Bool) (hb : decide ((now + 1) % every = 0) = b) (hs : Sync xs ats n self limit (now + 1)) (ht0 : 0 ≤ ticks) (ht1 : ticks ≤ 900000) (hw0 : 1 ≤ wait) (hw1 : wait ≤ 100)
    (hn0 : 0 ≤ self) (hn1 : self < n) (hn8 : n ≤ 8) (hws : ws.length ≤ 1048500) (hv : b = false) :
    Calls Try.prog 9 #[.pointer (some ⟨P, 0, none⟩)] w fun e w' => e = .returned (.tuple #[]) ∧ ∃ u, RAt w' P D u n ⟨⟨n, self, wait, 4, lead, term, ticks, ws⟩, every, limit, now + 1, ats⟩ ∧ Stp (rfp P D v) (rfp P D u) w w' := by
  obtain ⟨c0, c1, c2, c3, c4, c5, c6, c7, c8, cf⟩ := h.nd.cells
  have hwt : wrap64 (ticks + 1) = ticks + 1 := wrap64_mid (by omega) (by omega)
  have hwd : wrap64 (2 * wait) = 2 * wait := wrap64_mid (by omega) (by omega)
  have HD := Lib.hid (And.intro h.dt (And.intro h1 (And.intro h2 (And.intro (show now ≤ 1000000 by omega) hb))))
  have HS := Lib.hid hs
  have HB := Lib.hid (And.intro hn0 (And.intro hn1 (And.intro hn8 hws)))
  have H0 := Lib.hid h
  clear h h1 h2 h3 hb hs ht0 ht1 hw0 hw1 hn0 hn1 hn8 hws
  go_enter Try.func9, Try.ntmps9
  go_upto_region 1 with (go_at_call 34; (with_reducible refine (rtick_any HD.out.1 HD.out.2.1 HD.out.2.2.1 HD.out.2.2.2.1 b HD.out.2.2.2.2).mono ?_); rintro e' w1 ⟨rfl, hd1, hk1⟩)
  have HT := Lib.hid (H0.out.det hd1 hk1)
  have HU := Lib.hid (RAt.stpD (P := P) (v := v) hk1)
  clear c0 c1 c2 c3 c4 c5 c6 c7 c8 cf hd1 hk1 HD H0
  obtain ⟨c0, c1, c2, c3, c4, c5, c6, c7, c8, cf⟩ := HT.out.nd.cells
  simp only [] at c0 c1 c2 c3 c4 c5 c6 c7 c8
  subst hv
  go_wp2
  go_end0
  exact ⟨rfl, v, HT.out, HU.out⟩
set_option maxHeartbeats 4000000 in
theorem rtick0y {w : World} {P D n : Nat} {v : Value} {self wait lead term ticks : Int} {ws : List Wd} {every now : Nat} {limit : Int} {xs ats : List Int} (h : RAt w P D v n ⟨⟨n, self, wait, 0, lead, term, ticks, ws⟩, every, limit, now, ats⟩)
    (h1 : 1 ≤ every) (h2 : every ≤ 100) (h3 : now ≤ 990) (b : Bool) (hb : decide ((now + 1) % every = 0) = b) (hs : Sync xs ats n self limit (now + 1)) (ht0 : 0 ≤ ticks) (ht1 : ticks ≤ 900000) (hw0 : 1 ≤ wait) (hw1 : wait ≤ 100)
    (hn0 : 0 ≤ self) (hn1 : self < n) (hn8 : n ≤ 8) (hws : ws.length ≤ 1048500) (ha : aliveB xs limit lead = true) (hl : 0 ≤ lead) :
    Calls Try.prog 9 #[.pointer (some ⟨P, 0, none⟩)] w fun e w' => e = .returned (.tuple #[]) ∧ ∃ u, RAt w' P D u n ⟨⟨n, self, wait, 0, lead, term, ticks, ws⟩, every, limit, now + 1, ats⟩ ∧ Stp (rfp P D v) (rfp P D u) w w' := by
  obtain ⟨c0, c1, c2, c3, c4, c5, c6, c7, c8, cf⟩ := h.nd.cells
  have hwt : wrap64 (ticks + 1) = ticks + 1 := wrap64_mid (by omega) (by omega)
  have hwd : wrap64 (2 * wait) = 2 * wait := wrap64_mid (by omega) (by omega)
  have HD := Lib.hid (And.intro h.dt (And.intro h1 (And.intro h2 (And.intro (show now ≤ 1000000 by omega) hb))))
  have HS := Lib.hid hs
  have HB := Lib.hid (And.intro hn0 (And.intro hn1 (And.intro hn8 hws)))
  have H0 := Lib.hid h
  clear h h1 h2 h3 hb hs ht0 ht1 hw0 hw1 hn0 hn1 hn8 hws
  go_enter Try.func9, Try.ntmps9
  go_upto_region 1 with (go_at_call 34; (with_reducible refine (rtick_any HD.out.1 HD.out.2.1 HD.out.2.2.1 HD.out.2.2.2.1 b HD.out.2.2.2.2).mono ?_); rintro e' w1 ⟨rfl, hd1, hk1⟩)
  have HT := Lib.hid (H0.out.det hd1 hk1)
  have HU := Lib.hid (RAt.stpD (P := P) (v := v) hk1)
  clear c0 c1 c2 c3 c4 c5 c6 c7 c8 cf hd1 hk1 HD H0
  obtain ⟨c0, c1, c2, c3, c4, c5, c6, c7, c8, cf⟩ := HT.out.nd.cells
  simp only [] at c0 c1 c2 c3 c4 c5 c6 c7 c8
  have HL := Lib.hid ha
  clear ha
  go_upto_region 6 with (fail)
  refine region_gen (Rd w1) (by kernel_rfl) (by kernel_rfl) (Rd.start _) ?_
  repeat
    (refine step_gen (by decide) (by rfl) (fun K hK => ?_)
     go_simp
     first
       | (with_reducible refine Sk.of Rd.skips ?_
          refine hK _ _ _ ?_
          clear hK K)
       | (with_reducible apply H1.one
          · intro σ wv hk hd hv
            obtain ⟨⟨m_, rfl⟩⟩ := hv
            go_simp
            (with_reducible refine ⟨rfl, ?_⟩)
            exact ⟨m_, rfl⟩
          refine hK _ _ _ ?_
          clear hK K)
       | (with_reducible apply H1.one
          · intro σ wv hk hd hv
            obtain ⟨⟨m_, rfl⟩⟩ := hv
            go_simp
            (refine (ralive_any (HT.out.dt.drewN m_) HS.out lead true HL.out).mono ?_
             rintro e w' ⟨rfl, m2, rfl⟩
             exact ⟨_, rfl, rfl, ⟨m_ + m2, drewN_drewN ..⟩⟩)
          refine hK _ _ _ ?_
          clear hK K))
  refine nil_gen ?_
  rintro σ wv - - ⟨⟨n1, rfl⟩⟩
  clear σ
  have HT2 := Lib.hid (HT.out.drewN n1)
  have HU2 := Lib.hid (HU.out.drewN n1)
  generalize w1.drewN n1 = W1 at HT2 HU2 ⊢
  clear c0 c1 c2 c3 c4 c5 c6 c7 c8 cf HT HU
  obtain ⟨c0, c1, c2, c3, c4, c5, c6, c7, c8, cf⟩ := HT2.out.nd.cells
  simp only [] at c0 c1 c2 c3 c4 c5 c6 c7 c8
  have HT := HT2
  have HU := HU2
  clear HT2 HU2
  go_wp2
  go_end0
  exact ⟨rfl, v, HT.out, HU.out⟩
set_option maxHeartbeats 4000000 in
theorem rtick0n {w : World} {P D n : Nat} {v : Value} {self wait lead term ticks : Int} {ws : List Wd} {every now : Nat} {limit : Int} {xs ats : List Int} (h : RAt w P D v n ⟨⟨n, self, wait, 0, lead, term, ticks, ws⟩, every, limit, now, ats⟩)
    (h1 : 1 ≤ every) (h2 : every ≤ 100) (h3 : now ≤ 990) (b : Bool) (hb : decide ((now + 1) % every = 0) = b) (hs : Sync xs ats n self limit (now + 1)) (ht0 : 0 ≤ ticks) (ht1 : ticks ≤ 900000) (hw0 : 1 ≤ wait) (hw1 : wait ≤ 100)
    (hn0 : 0 ≤ self) (hn1 : self < n) (hn8 : n ≤ 8) (hws : ws.length ≤ 1048500) (ha : aliveB xs limit lead = false) (hl : 0 ≤ lead) :
    Calls Try.prog 9 #[.pointer (some ⟨P, 0, none⟩)] w fun e w' => e = .returned (.tuple #[]) ∧ ∃ u, RAt w' P D u n ⟨Nd.ask ⟨n, self, wait, 0, lead, term, ticks, ws⟩, every, limit, now + 1, ats⟩ ∧ Stp (rfp P D v) (rfp P D u) w w' := by
  obtain ⟨c0, c1, c2, c3, c4, c5, c6, c7, c8, cf⟩ := h.nd.cells
  have hwt : wrap64 (ticks + 1) = ticks + 1 := wrap64_mid (by omega) (by omega)
  have hwd : wrap64 (2 * wait) = 2 * wait := wrap64_mid (by omega) (by omega)
  have HD := Lib.hid (And.intro h.dt (And.intro h1 (And.intro h2 (And.intro (show now ≤ 1000000 by omega) hb))))
  have HS := Lib.hid hs
  have HB := Lib.hid (And.intro hn0 (And.intro hn1 (And.intro hn8 hws)))
  have H0 := Lib.hid h
  clear h h1 h2 h3 hb hs ht0 ht1 hw0 hw1 hn0 hn1 hn8 hws
  go_enter Try.func9, Try.ntmps9
  go_upto_region 1 with (go_at_call 34; (with_reducible refine (rtick_any HD.out.1 HD.out.2.1 HD.out.2.2.1 HD.out.2.2.2.1 b HD.out.2.2.2.2).mono ?_); rintro e' w1 ⟨rfl, hd1, hk1⟩)
  have HT := Lib.hid (H0.out.det hd1 hk1)
  have HU := Lib.hid (RAt.stpD (P := P) (v := v) hk1)
  clear c0 c1 c2 c3 c4 c5 c6 c7 c8 cf hd1 hk1 HD H0
  obtain ⟨c0, c1, c2, c3, c4, c5, c6, c7, c8, cf⟩ := HT.out.nd.cells
  simp only [] at c0 c1 c2 c3 c4 c5 c6 c7 c8
  have HL := Lib.hid ha
  clear ha
  go_upto_region 6 with (fail)
  refine region_gen (Rd w1) (by kernel_rfl) (by kernel_rfl) (Rd.start _) ?_
  repeat
    (refine step_gen (by decide) (by rfl) (fun K hK => ?_)
     go_simp
     first
       | (with_reducible refine Sk.of Rd.skips ?_
          refine hK _ _ _ ?_
          clear hK K)
       | (with_reducible apply H1.one
          · intro σ wv hk hd hv
            obtain ⟨⟨m_, rfl⟩⟩ := hv
            go_simp
            (with_reducible refine ⟨rfl, ?_⟩)
            exact ⟨m_, rfl⟩
          refine hK _ _ _ ?_
          clear hK K)
       | (with_reducible apply H1.one
          · intro σ wv hk hd hv
            obtain ⟨⟨m_, rfl⟩⟩ := hv
            go_simp
            (refine (ralive_any (HT.out.dt.drewN m_) HS.out lead false HL.out).mono ?_
             rintro e w' ⟨rfl, m2, rfl⟩
             exact ⟨_, rfl, rfl, ⟨m_ + m2, drewN_drewN ..⟩⟩)
          refine hK _ _ _ ?_
          clear hK K))
  refine nil_gen ?_
  rintro σ wv - - ⟨⟨n1, rfl⟩⟩
  clear σ
  have HT2 := Lib.hid (HT.out.drewN n1)
  have HU2 := Lib.hid (HU.out.drewN n1)
  generalize w1.drewN n1 = W1 at HT2 HU2 ⊢
  clear c0 c1 c2 c3 c4 c5 c6 c7 c8 cf HT HU
  obtain ⟨c0, c1, c2, c3, c4, c5, c6, c7, c8, cf⟩ := HT2.out.nd.cells
  simp only [] at c0 c1 c2 c3 c4 c5 c6 c7 c8
  have HT := HT2
  have HU := HU2
  clear HT2 HU2
  go_upto_region 7 with (fail)
  have H3 := HT
  have HV := HU
  clear c0 c1 c2 c3 c4 c5 c6 c7 c8 cf HT HU
  go_wp2_with (go_at_call 37; (with_reducible refine (rask_any (show NodeAt 52 31 _ P ⟨n, self, wait, 0, lead, term, ticks, ws⟩ (ptr D) v from H3.out.nd) HB.out.1 HB.out.2.1 (by have := HB.out.2.2.1; omega) HB.out.2.2.2).mono ?_); rintro e' w4 ⟨rfl, HR⟩)
  go_end0
  obtain ⟨u, hd2, hm2⟩ := HR
  exact ⟨rfl, u, H3.out.node hd2 hm2 (Nd.ask_self _), HV.out.trans hm2.rstp⟩
set_option maxHeartbeats 4000000 in
theorem rtick0m {w : World} {P D n : Nat} {v : Value} {self wait lead term ticks : Int} {ws : List Wd} {every now : Nat} {limit : Int} {xs ats : List Int} (h : RAt w P D v n ⟨⟨n, self, wait, 0, lead, term, ticks, ws⟩, every, limit, now, ats⟩)
    (h1 : 1 ≤ every) (h2 : every ≤ 100) (h3 : now ≤ 990) (b : Bool) (hb : decide ((now + 1) % every = 0) = b) (hs : Sync xs ats n self limit (now + 1)) (ht0 : 0 ≤ ticks) (ht1 : ticks ≤ 900000) (hw0 : 1 ≤ wait) (hw1 : wait ≤ 100)
    (hn0 : 0 ≤ self) (hn1 : self < n) (hn8 : n ≤ 8) (hws : ws.length ≤ 1048500) (hl : lead < 0) :
    Calls Try.prog 9 #[.pointer (some ⟨P, 0, none⟩)] w fun e w' => e = .returned (.tuple #[]) ∧ ∃ u, RAt w' P D u n ⟨Nd.ask ⟨n, self, wait, 0, lead, term, ticks, ws⟩, every, limit, now + 1, ats⟩ ∧ Stp (rfp P D v) (rfp P D u) w w' := by
  obtain ⟨c0, c1, c2, c3, c4, c5, c6, c7, c8, cf⟩ := h.nd.cells
  have hwt : wrap64 (ticks + 1) = ticks + 1 := wrap64_mid (by omega) (by omega)
  have hwd : wrap64 (2 * wait) = 2 * wait := wrap64_mid (by omega) (by omega)
  have HD := Lib.hid (And.intro h.dt (And.intro h1 (And.intro h2 (And.intro (show now ≤ 1000000 by omega) hb))))
  have HS := Lib.hid hs
  have HB := Lib.hid (And.intro hn0 (And.intro hn1 (And.intro hn8 hws)))
  have H0 := Lib.hid h
  clear h h1 h2 h3 hb hs ht0 ht1 hw0 hw1 hn0 hn1 hn8 hws
  go_enter Try.func9, Try.ntmps9
  go_upto_region 1 with (go_at_call 34; (with_reducible refine (rtick_any HD.out.1 HD.out.2.1 HD.out.2.2.1 HD.out.2.2.2.1 b HD.out.2.2.2.2).mono ?_); rintro e' w1 ⟨rfl, hd1, hk1⟩)
  have HT := Lib.hid (H0.out.det hd1 hk1)
  have HU := Lib.hid (RAt.stpD (P := P) (v := v) hk1)
  clear c0 c1 c2 c3 c4 c5 c6 c7 c8 cf hd1 hk1 HD H0
  obtain ⟨c0, c1, c2, c3, c4, c5, c6, c7, c8, cf⟩ := HT.out.nd.cells
  simp only [] at c0 c1 c2 c3 c4 c5 c6 c7 c8
  go_upto_region 6 with (fail)
  refine region_gen (Rd w1) (by kernel_rfl) (by kernel_rfl) (Rd.start _) ?_
  repeat
    (refine step_gen (by decide) (by rfl) (fun K hK => ?_)
     go_simp
     first
       | (with_reducible refine Sk.of Rd.skips ?_
          refine hK _ _ _ ?_
          clear hK K)
       | (with_reducible apply H1.one
          · intro σ wv hk hd hv
            obtain ⟨⟨m_, rfl⟩⟩ := hv
            go_simp
            (with_reducible refine ⟨rfl, ?_⟩)
            exact ⟨m_, rfl⟩
          refine hK _ _ _ ?_
          clear hK K))
  refine nil_gen ?_
  rintro σ wv - - ⟨⟨n1, rfl⟩⟩
  clear σ
  have HT2 := Lib.hid (HT.out.drewN n1)
  have HU2 := Lib.hid (HU.out.drewN n1)
  generalize w1.drewN n1 = W1 at HT2 HU2 ⊢
  clear c0 c1 c2 c3 c4 c5 c6 c7 c8 cf HT HU
  obtain ⟨c0, c1, c2, c3, c4, c5, c6, c7, c8, cf⟩ := HT2.out.nd.cells
  simp only [] at c0 c1 c2 c3 c4 c5 c6 c7 c8
  have HT := HT2
  have HU := HU2
  clear HT2 HU2
  go_upto_region 7 with (fail)
  have H3 := HT
  have HV := HU
  clear c0 c1 c2 c3 c4 c5 c6 c7 c8 cf HT HU
  go_wp2_with (go_at_call 37; (with_reducible refine (rask_any (show NodeAt 52 31 _ P ⟨n, self, wait, 0, lead, term, ticks, ws⟩ (ptr D) v from H3.out.nd) HB.out.1 HB.out.2.1 (by have := HB.out.2.2.1; omega) HB.out.2.2.2).mono ?_); rintro e' w4 ⟨rfl, HR⟩)
  go_end0
  obtain ⟨u, hd2, hm2⟩ := HR
  exact ⟨rfl, u, H3.out.node hd2 hm2 (Nd.ask_self _), HV.out.trans hm2.rstp⟩
set_option maxHeartbeats 4000000 in
theorem rtick1y {w : World} {P D n : Nat} {v : Value} {self wait lead term ticks : Int} {ws : List Wd} {every now : Nat} {limit : Int} {xs ats : List Int} (h : RAt w P D v n ⟨⟨n, self, wait, 1, lead, term, ticks, ws⟩, every, limit, now, ats⟩)
    (h1 : 1 ≤ every) (h2 : every ≤ 100) (h3 : now ≤ 990) (b : Bool) (hb : decide ((now + 1) % every = 0) = b) (hs : Sync xs ats n self limit (now + 1)) (ht0 : 0 ≤ ticks) (ht1 : ticks ≤ 900000) (hw0 : 1 ≤ wait) (hw1 : wait ≤ 100)
    (hn0 : 0 ≤ self) (hn1 : self < n) (hn8 : n ≤ 8) (hws : ws.length ≤ 1048500) (hq : ticks + 1 = wait) :
    Calls Try.prog 9 #[.pointer (some ⟨P, 0, none⟩)] w fun e w' => e = .returned (.tuple #[]) ∧ ∃ u, RAt w' P D u n ⟨⟨n, self, wait, 3, lead, term, ticks + 1, ws⟩, every, limit, now + 1, ats⟩ ∧ Stp (rfp P D v) (rfp P D u) w w' := by
  obtain ⟨c0, c1, c2, c3, c4, c5, c6, c7, c8, cf⟩ := h.nd.cells
  have hwt : wrap64 (ticks + 1) = ticks + 1 := wrap64_mid (by omega) (by omega)
  have hwd : wrap64 (2 * wait) = 2 * wait := wrap64_mid (by omega) (by omega)
  have HD := Lib.hid (And.intro h.dt (And.intro h1 (And.intro h2 (And.intro (show now ≤ 1000000 by omega) hb))))
  have HS := Lib.hid hs
  have HB := Lib.hid (And.intro hn0 (And.intro hn1 (And.intro hn8 hws)))
  have H0 := Lib.hid h
  clear h h1 h2 h3 hb hs ht0 ht1 hw0 hw1 hn0 hn1 hn8 hws
  go_enter Try.func9, Try.ntmps9
  go_upto_region 1 with (go_at_call 34; (with_reducible refine (rtick_any HD.out.1 HD.out.2.1 HD.out.2.2.1 HD.out.2.2.2.1 b HD.out.2.2.2.2).mono ?_); rintro e' w1 ⟨rfl, hd1, hk1⟩)
  have HT := Lib.hid (H0.out.det hd1 hk1)
  have HU := Lib.hid (RAt.stpD (P := P) (v := v) hk1)
  clear c0 c1 c2 c3 c4 c5 c6 c7 c8 cf hd1 hk1 HD H0
  obtain ⟨c0, c1, c2, c3, c4, c5, c6, c7, c8, cf⟩ := HT.out.nd.cells
  simp only [] at c0 c1 c2 c3 c4 c5 c6 c7 c8
  subst hq
  go_upto_region 10 with (fail)
  have HT2 := Lib.hid (HT.out.setT (ticks + 1))
  have HU2 := Lib.hid (HU.out.trans (show Stp (rfp P D v) (rfp P D v) w1 (w1.setCell ⟨P, 6, none⟩ (.int .i64 (ticks + 1))) from ((Mv.refl P v w1).set 6 (.int .i64 (ticks + 1))).rstp))
  generalize (w1.setCell ⟨P, 6, none⟩ (.int .i64 (ticks + 1))) = w2 at HT2 HU2 ⊢
  clear c0 c1 c2 c3 c4 c5 c6 c7 c8 cf HT HU
  obtain ⟨c0, c1, c2, c3, c4, c5, c6, c7, c8, cf⟩ := HT2.out.nd.cells
  simp only [] at c0 c1 c2 c3 c4 c5 c6 c7 c8
  have HT := HT2
  have HU := HU2
  clear HT2 HU2
  refine region_gen (Rd w2) (by kernel_rfl) (by kernel_rfl) (Rd.start _) ?_
  repeat
    (refine step_gen (by decide) (by rfl) (fun K hK => ?_)
     go_simp
     first
       | (with_reducible refine Sk.of Rd.skips ?_
          refine hK _ _ _ ?_
          clear hK K)
       | (with_reducible apply H1.one
          · intro σ wv hk hd hv
            obtain ⟨⟨m_, rfl⟩⟩ := hv
            go_simp
            (with_reducible refine ⟨rfl, ?_⟩)
            exact ⟨m_, rfl⟩
          refine hK _ _ _ ?_
          clear hK K))
  refine nil_gen ?_
  rintro σ wv - - ⟨⟨n2, rfl⟩⟩
  clear σ
  have HT2 := Lib.hid (HT.out.drewN n2)
  have HU2 := Lib.hid (HU.out.drewN n2)
  generalize w2.drewN n2 = W2 at HT2 HU2 ⊢
  clear c0 c1 c2 c3 c4 c5 c6 c7 c8 cf HT HU
  obtain ⟨c0, c1, c2, c3, c4, c5, c6, c7, c8, cf⟩ := HT2.out.nd.cells
  simp only [] at c0 c1 c2 c3 c4 c5 c6 c7 c8
  have HT := HT2
  have HU := HU2
  clear HT2 HU2
  have HT2 := Lib.hid (HT.out.setR 3)
  have HU2 := Lib.hid (HU.out.trans (show Stp (rfp P D v) (rfp P D v) W2 (W2.setCell ⟨P, 3, none⟩ (.int .i64 3)) from ((Mv.refl P v W2).set 3 (.int .i64 3)).rstp))
  go_wp2
  go_end0
  exact ⟨rfl, v, HT2.out, HU2.out⟩
set_option maxHeartbeats 4000000 in
theorem rtick1n {w : World} {P D n : Nat} {v : Value} {self wait lead term ticks : Int} {ws : List Wd} {every now : Nat} {limit : Int} {xs ats : List Int} (h : RAt w P D v n ⟨⟨n, self, wait, 1, lead, term, ticks, ws⟩, every, limit, now, ats⟩)
    (h1 : 1 ≤ every) (h2 : every ≤ 100) (h3 : now ≤ 990) (b : Bool) (hb : decide ((now + 1) % every = 0) = b) (hs : Sync xs ats n self limit (now + 1)) (ht0 : 0 ≤ ticks) (ht1 : ticks ≤ 900000) (hw0 : 1 ≤ wait) (hw1 : wait ≤ 100)
    (hn0 : 0 ≤ self) (hn1 : self < n) (hn8 : n ≤ 8) (hws : ws.length ≤ 1048500) (hq : ¬ ticks + 1 = wait) :
    Calls Try.prog 9 #[.pointer (some ⟨P, 0, none⟩)] w fun e w' => e = .returned (.tuple #[]) ∧ ∃ u, RAt w' P D u n ⟨⟨n, self, wait, 1, lead, term, ticks + 1, ws⟩, every, limit, now + 1, ats⟩ ∧ Stp (rfp P D v) (rfp P D u) w w' := by
  obtain ⟨c0, c1, c2, c3, c4, c5, c6, c7, c8, cf⟩ := h.nd.cells
  have hwt : wrap64 (ticks + 1) = ticks + 1 := wrap64_mid (by omega) (by omega)
  have hwd : wrap64 (2 * wait) = 2 * wait := wrap64_mid (by omega) (by omega)
  have HD := Lib.hid (And.intro h.dt (And.intro h1 (And.intro h2 (And.intro (show now ≤ 1000000 by omega) hb))))
  have HS := Lib.hid hs
  have HB := Lib.hid (And.intro hn0 (And.intro hn1 (And.intro hn8 hws)))
  have H0 := Lib.hid h
  clear h h1 h2 h3 hb hs ht0 ht1 hw0 hw1 hn0 hn1 hn8 hws
  go_enter Try.func9, Try.ntmps9
  go_upto_region 1 with (go_at_call 34; (with_reducible refine (rtick_any HD.out.1 HD.out.2.1 HD.out.2.2.1 HD.out.2.2.2.1 b HD.out.2.2.2.2).mono ?_); rintro e' w1 ⟨rfl, hd1, hk1⟩)
  have HT := Lib.hid (H0.out.det hd1 hk1)
  have HU := Lib.hid (RAt.stpD (P := P) (v := v) hk1)
  clear c0 c1 c2 c3 c4 c5 c6 c7 c8 cf hd1 hk1 HD H0
  obtain ⟨c0, c1, c2, c3, c4, c5, c6, c7, c8, cf⟩ := HT.out.nd.cells
  simp only [] at c0 c1 c2 c3 c4 c5 c6 c7 c8
  have hqb : (ticks + 1 == wait) = false := by simp [hq]
  clear hq
  go_upto_region 10 with (fail)
  have HT2 := Lib.hid (HT.out.setT (ticks + 1))
  have HU2 := Lib.hid (HU.out.trans (show Stp (rfp P D v) (rfp P D v) w1 (w1.setCell ⟨P, 6, none⟩ (.int .i64 (ticks + 1))) from ((Mv.refl P v w1).set 6 (.int .i64 (ticks + 1))).rstp))
  generalize (w1.setCell ⟨P, 6, none⟩ (.int .i64 (ticks + 1))) = w2 at HT2 HU2 ⊢
  clear c0 c1 c2 c3 c4 c5 c6 c7 c8 cf HT HU
  obtain ⟨c0, c1, c2, c3, c4, c5, c6, c7, c8, cf⟩ := HT2.out.nd.cells
  simp only [] at c0 c1 c2 c3 c4 c5 c6 c7 c8
  have HT := HT2
  have HU := HU2
  clear HT2 HU2
  refine region_gen (Rd w2) (by kernel_rfl) (by kernel_rfl) (Rd.start _) ?_
  repeat
    (refine step_gen (by decide) (by rfl) (fun K hK => ?_)
     go_simp
     first
       | (with_reducible refine Sk.of Rd.skips ?_
          refine hK _ _ _ ?_
          clear hK K)
       | (with_reducible apply H1.one
          · intro σ wv hk hd hv
            obtain ⟨⟨m_, rfl⟩⟩ := hv
            go_simp
            (with_reducible refine ⟨rfl, ?_⟩)
            exact ⟨m_, rfl⟩
          refine hK _ _ _ ?_
          clear hK K))
  refine nil_gen ?_
  rintro σ wv - - ⟨⟨n2, rfl⟩⟩
  clear σ
  have HT2 := Lib.hid (HT.out.drewN n2)
  have HU2 := Lib.hid (HU.out.drewN n2)
  generalize w2.drewN n2 = W2 at HT2 HU2 ⊢
  clear c0 c1 c2 c3 c4 c5 c6 c7 c8 cf HT HU
  obtain ⟨c0, c1, c2, c3, c4, c5, c6, c7, c8, cf⟩ := HT2.out.nd.cells
  simp only [] at c0 c1 c2 c3 c4 c5 c6 c7 c8
  have HT := HT2
  have HU := HU2
  clear HT2 HU2
  go_wp2
  go_end0
  exact ⟨rfl, v, HT.out, HU.out⟩
set_option maxHeartbeats 4000000 in
theorem rtick2y {w : World} {P D n : Nat} {v : Value} {self wait lead term ticks : Int} {ws : List Wd} {every now : Nat} {limit : Int} {xs ats : List Int} (h : RAt w P D v n ⟨⟨n, self, wait, 2, lead, term, ticks, ws⟩, every, limit, now, ats⟩)
    (h1 : 1 ≤ every) (h2 : every ≤ 100) (h3 : now ≤ 990) (b : Bool) (hb : decide ((now + 1) % every = 0) = b) (hs : Sync xs ats n self limit (now + 1)) (ht0 : 0 ≤ ticks) (ht1 : ticks ≤ 900000) (hw0 : 1 ≤ wait) (hw1 : wait ≤ 100)
    (hn0 : 0 ≤ self) (hn1 : self < n) (hn8 : n ≤ 8) (hws : ws.length ≤ 1048500) (hq : ticks + 1 = 2 * wait) :
    Calls Try.prog 9 #[.pointer (some ⟨P, 0, none⟩)] w fun e w' => e = .returned (.tuple #[]) ∧ ∃ u, RAt w' P D u n ⟨Nd.ask ⟨n, self, wait, 2, lead, term, ticks + 1, ws⟩, every, limit, now + 1, ats⟩ ∧ Stp (rfp P D v) (rfp P D u) w w' := by
  obtain ⟨c0, c1, c2, c3, c4, c5, c6, c7, c8, cf⟩ := h.nd.cells
  have hwt : wrap64 (ticks + 1) = ticks + 1 := wrap64_mid (by omega) (by omega)
  have hwd : wrap64 (2 * wait) = 2 * wait := wrap64_mid (by omega) (by omega)
  have HD := Lib.hid (And.intro h.dt (And.intro h1 (And.intro h2 (And.intro (show now ≤ 1000000 by omega) hb))))
  have HS := Lib.hid hs
  have HB := Lib.hid (And.intro hn0 (And.intro hn1 (And.intro hn8 hws)))
  have H0 := Lib.hid h
  clear h h1 h2 h3 hb hs ht0 ht1 hw0 hw1 hn0 hn1 hn8 hws
  go_enter Try.func9, Try.ntmps9
  go_upto_region 1 with (go_at_call 34; (with_reducible refine (rtick_any HD.out.1 HD.out.2.1 HD.out.2.2.1 HD.out.2.2.2.1 b HD.out.2.2.2.2).mono ?_); rintro e' w1 ⟨rfl, hd1, hk1⟩)
  have HT := Lib.hid (H0.out.det hd1 hk1)
  have HU := Lib.hid (RAt.stpD (P := P) (v := v) hk1)
  clear c0 c1 c2 c3 c4 c5 c6 c7 c8 cf hd1 hk1 HD H0
  obtain ⟨c0, c1, c2, c3, c4, c5, c6, c7, c8, cf⟩ := HT.out.nd.cells
  simp only [] at c0 c1 c2 c3 c4 c5 c6 c7 c8
  have hwe : IntKind.i64.wrap (2 * wait) = ticks + 1 := by rw [IntWalk.i64_left]; exact hwd.trans hq.symm
  clear hq hwd
  go_upto_region 14 with (fail)
  have HT2 := Lib.hid (HT.out.setT (ticks + 1))
  have HU2 := Lib.hid (HU.out.trans (show Stp (rfp P D v) (rfp P D v) w1 (w1.setCell ⟨P, 6, none⟩ (.int .i64 (ticks + 1))) from ((Mv.refl P v w1).set 6 (.int .i64 (ticks + 1))).rstp))
  generalize (w1.setCell ⟨P, 6, none⟩ (.int .i64 (ticks + 1))) = w2 at HT2 HU2 ⊢
  clear c0 c1 c2 c3 c4 c5 c6 c7 c8 cf HT HU
  obtain ⟨c0, c1, c2, c3, c4, c5, c6, c7, c8, cf⟩ := HT2.out.nd.cells
  simp only [] at c0 c1 c2 c3 c4 c5 c6 c7 c8
  have HT := HT2
  have HU := HU2
  clear HT2 HU2
  refine region_gen (Rd w2) (by kernel_rfl) (by kernel_rfl) (Rd.start _) ?_
  repeat
    (refine step_gen (by decide) (by rfl) (fun K hK => ?_)
     go_simp
     first
       | (with_reducible refine Sk.of Rd.skips ?_
          refine hK _ _ _ ?_
          clear hK K)
       | (with_reducible apply H1.one
          · intro σ wv hk hd hv
            obtain ⟨⟨m_, rfl⟩⟩ := hv
            go_simp
            (with_reducible refine ⟨rfl, ?_⟩)
            exact ⟨m_, rfl⟩
          refine hK _ _ _ ?_
          clear hK K))
  refine nil_gen ?_
  rintro σ wv - - ⟨⟨n2, rfl⟩⟩
  clear σ
  have HT2 := Lib.hid (HT.out.drewN n2)
  have HU2 := Lib.hid (HU.out.drewN n2)
  generalize w2.drewN n2 = W2 at HT2 HU2 ⊢
  clear c0 c1 c2 c3 c4 c5 c6 c7 c8 cf HT HU
  obtain ⟨c0, c1, c2, c3, c4, c5, c6, c7, c8, cf⟩ := HT2.out.nd.cells
  simp only [] at c0 c1 c2 c3 c4 c5 c6 c7 c8
  have HT := HT2
  have HU := HU2
  clear HT2 HU2
  go_upto_region 15 with (fail)
  have H3 := HT
  have HV := HU
  clear c0 c1 c2 c3 c4 c5 c6 c7 c8 cf HT HU
  go_wp2_with (go_at_call 37; (with_reducible refine (rask_any (show NodeAt 52 31 _ P ⟨n, self, wait, 2, lead, term, ticks + 1, ws⟩ (ptr D) v from H3.out.nd) HB.out.1 HB.out.2.1 (by have := HB.out.2.2.1; omega) HB.out.2.2.2).mono ?_); rintro e' w4 ⟨rfl, HR⟩)
  go_end0
  obtain ⟨u, hd2, hm2⟩ := HR
  exact ⟨rfl, u, H3.out.node hd2 hm2 (Nd.ask_self _), HV.out.trans hm2.rstp⟩
set_option maxHeartbeats 4000000 in
theorem rtick2n {w : World} {P D n : Nat} {v : Value} {self wait lead term ticks : Int} {ws : List Wd} {every now : Nat} {limit : Int} {xs ats : List Int} (h : RAt w P D v n ⟨⟨n, self, wait, 2, lead, term, ticks, ws⟩, every, limit, now, ats⟩)
    (h1 : 1 ≤ every) (h2 : every ≤ 100) (h3 : now ≤ 990) (b : Bool) (hb : decide ((now + 1) % every = 0) = b) (hs : Sync xs ats n self limit (now + 1)) (ht0 : 0 ≤ ticks) (ht1 : ticks ≤ 900000) (hw0 : 1 ≤ wait) (hw1 : wait ≤ 100)
    (hn0 : 0 ≤ self) (hn1 : self < n) (hn8 : n ≤ 8) (hws : ws.length ≤ 1048500) (hq : ¬ ticks + 1 = 2 * wait) :
    Calls Try.prog 9 #[.pointer (some ⟨P, 0, none⟩)] w fun e w' => e = .returned (.tuple #[]) ∧ ∃ u, RAt w' P D u n ⟨⟨n, self, wait, 2, lead, term, ticks + 1, ws⟩, every, limit, now + 1, ats⟩ ∧ Stp (rfp P D v) (rfp P D u) w w' := by
  obtain ⟨c0, c1, c2, c3, c4, c5, c6, c7, c8, cf⟩ := h.nd.cells
  have hwt : wrap64 (ticks + 1) = ticks + 1 := wrap64_mid (by omega) (by omega)
  have hwd : wrap64 (2 * wait) = 2 * wait := wrap64_mid (by omega) (by omega)
  have HD := Lib.hid (And.intro h.dt (And.intro h1 (And.intro h2 (And.intro (show now ≤ 1000000 by omega) hb))))
  have HS := Lib.hid hs
  have HB := Lib.hid (And.intro hn0 (And.intro hn1 (And.intro hn8 hws)))
  have H0 := Lib.hid h
  clear h h1 h2 h3 hb hs ht0 ht1 hw0 hw1 hn0 hn1 hn8 hws
  go_enter Try.func9, Try.ntmps9
  go_upto_region 1 with (go_at_call 34; (with_reducible refine (rtick_any HD.out.1 HD.out.2.1 HD.out.2.2.1 HD.out.2.2.2.1 b HD.out.2.2.2.2).mono ?_); rintro e' w1 ⟨rfl, hd1, hk1⟩)
  have HT := Lib.hid (H0.out.det hd1 hk1)
  have HU := Lib.hid (RAt.stpD (P := P) (v := v) hk1)
  clear c0 c1 c2 c3 c4 c5 c6 c7 c8 cf hd1 hk1 HD H0
  obtain ⟨c0, c1, c2, c3, c4, c5, c6, c7, c8, cf⟩ := HT.out.nd.cells
  simp only [] at c0 c1 c2 c3 c4 c5 c6 c7 c8
  have hwe : IntKind.i64.wrap (2 * wait) = 2 * wait := by rw [IntWalk.i64_left]; exact hwd
  have hqb : (ticks + 1 == 2 * wait) = false := by simp [hq]
  clear hq
  go_upto_region 14 with (fail)
  have HT2 := Lib.hid (HT.out.setT (ticks + 1))
  have HU2 := Lib.hid (HU.out.trans (show Stp (rfp P D v) (rfp P D v) w1 (w1.setCell ⟨P, 6, none⟩ (.int .i64 (ticks + 1))) from ((Mv.refl P v w1).set 6 (.int .i64 (ticks + 1))).rstp))
  generalize (w1.setCell ⟨P, 6, none⟩ (.int .i64 (ticks + 1))) = w2 at HT2 HU2 ⊢
  clear c0 c1 c2 c3 c4 c5 c6 c7 c8 cf HT HU
  obtain ⟨c0, c1, c2, c3, c4, c5, c6, c7, c8, cf⟩ := HT2.out.nd.cells
  simp only [] at c0 c1 c2 c3 c4 c5 c6 c7 c8
  have HT := HT2
  have HU := HU2
  clear HT2 HU2
  refine region_gen (Rd w2) (by kernel_rfl) (by kernel_rfl) (Rd.start _) ?_
  repeat
    (refine step_gen (by decide) (by rfl) (fun K hK => ?_)
     go_simp
     first
       | (with_reducible refine Sk.of Rd.skips ?_
          refine hK _ _ _ ?_
          clear hK K)
       | (with_reducible apply H1.one
          · intro σ wv hk hd hv
            obtain ⟨⟨m_, rfl⟩⟩ := hv
            go_simp
            (with_reducible refine ⟨rfl, ?_⟩)
            exact ⟨m_, rfl⟩
          refine hK _ _ _ ?_
          clear hK K))
  refine nil_gen ?_
  rintro σ wv - - ⟨⟨n2, rfl⟩⟩
  clear σ
  have HT2 := Lib.hid (HT.out.drewN n2)
  have HU2 := Lib.hid (HU.out.drewN n2)
  generalize w2.drewN n2 = W2 at HT2 HU2 ⊢
  clear c0 c1 c2 c3 c4 c5 c6 c7 c8 cf HT HU
  obtain ⟨c0, c1, c2, c3, c4, c5, c6, c7, c8, cf⟩ := HT2.out.nd.cells
  simp only [] at c0 c1 c2 c3 c4 c5 c6 c7 c8
  have HT := HT2
  have HU := HU2
  clear HT2 HU2
  go_wp2
  go_end0
  exact ⟨rfl, v, HT.out, HU.out⟩
set_option maxHeartbeats 4000000 in
theorem rtickr {w : World} {P D n : Nat} {v : Value} {self wait role lead term ticks : Int} {ws : List Wd} {every now : Nat} {limit : Int} {xs ats : List Int} (h : RAt w P D v n ⟨⟨n, self, wait, role, lead, term, ticks, ws⟩, every, limit, now, ats⟩)
    (h1 : 1 ≤ every) (h2 : every ≤ 100) (h3 : now ≤ 990) (b : Bool) (hb : decide ((now + 1) % every = 0) = b) (hs : Sync xs ats n self limit (now + 1)) (ht0 : 0 ≤ ticks) (ht1 : ticks ≤ 900000) (hw0 : 1 ≤ wait) (hw1 : wait ≤ 100)
    (hn0 : 0 ≤ self) (hn1 : self < n) (hn8 : n ≤ 8) (hws : ws.length ≤ 1048500) (hr : role ≠ 0 ∧ role ≠ 1 ∧ role ≠ 2 ∧ role ≠ 4) :
    Calls Try.prog 9 #[.pointer (some ⟨P, 0, none⟩)] w fun e w' => e = .returned (.tuple #[]) ∧ ∃ u, RAt w' P D u n ⟨⟨n, self, wait, role, lead, term, ticks, ws⟩, every, limit, now + 1, ats⟩ ∧ Stp (rfp P D v) (rfp P D u) w w' := by
  obtain ⟨c0, c1, c2, c3, c4, c5, c6, c7, c8, cf⟩ := h.nd.cells
  have hwt : wrap64 (ticks + 1) = ticks + 1 := wrap64_mid (by omega) (by omega)
  have hwd : wrap64 (2 * wait) = 2 * wait := wrap64_mid (by omega) (by omega)
  have HD := Lib.hid (And.intro h.dt (And.intro h1 (And.intro h2 (And.intro (show now ≤ 1000000 by omega) hb))))
  have HS := Lib.hid hs
  have HB := Lib.hid (And.intro hn0 (And.intro hn1 (And.intro hn8 hws)))
  have H0 := Lib.hid h
  clear h h1 h2 h3 hb hs ht0 ht1 hw0 hw1 hn0 hn1 hn8 hws
  go_enter Try.func9, Try.ntmps9
  go_upto_region 1 with (go_at_call 34; (with_reducible refine (rtick_any HD.out.1 HD.out.2.1 HD.out.2.2.1 HD.out.2.2.2.1 b HD.out.2.2.2.2).mono ?_); rintro e' w1 ⟨rfl, hd1, hk1⟩)
  have HT := Lib.hid (H0.out.det hd1 hk1)
  have HU := Lib.hid (RAt.stpD (P := P) (v := v) hk1)
  clear c0 c1 c2 c3 c4 c5 c6 c7 c8 cf hd1 hk1 HD H0
  obtain ⟨c0, c1, c2, c3, c4, c5, c6, c7, c8, cf⟩ := HT.out.nd.cells
  simp only [] at c0 c1 c2 c3 c4 c5 c6 c7 c8
  have q0 : (role == 0) = false := by simp; omega
  have q1 : (role == 1) = false := by simp; omega
  have q2 : (role == 2) = false := by simp; omega
  have q4 : (role == 4) = false := by simp; omega
  go_wp2
  go_end0
  exact ⟨rfl, v, HT.out, HU.out⟩
def RN.tick (s : RN) (n : Nat) (xs : List Int) : RN := { s with x := s.x.rtick n (decide ((s.now + 1) % s.every = 0)) (aliveB xs s.limit s.x.lead), now := s.now + 1 }
/-- A tick of the reference's node. -/
theorem rntick_any {w : World} {P D n : Nat} {v : Value} {s : RN} (h : RAt w P D v n s) (hn : s.x.n = n) {xs : List Int}
    (h1 : 1 ≤ s.every) (h2 : s.every ≤ 100) (h3 : s.now ≤ 990) (hs : Sync xs s.ats n s.x.self s.limit (s.now + 1)) (ht0 : 0 ≤ s.x.ticks) (ht1 : s.x.ticks ≤ 900000) (hw0 : 1 ≤ s.x.wait) (hw1 : s.x.wait ≤ 100)
    (hn0 : 0 ≤ s.x.self) (hn1 : s.x.self < n) (hn8 : n ≤ 8) (hws : s.x.ws.length ≤ 1048500) :
    Calls Try.prog 9 #[.pointer (some ⟨P, 0, none⟩)] w fun e w' => e = .returned (.tuple #[]) ∧ ∃ u, RAt w' P D u n (s.tick n xs) ∧ Stp (rfp P D v) (rfp P D u) w w' := by
  obtain ⟨⟨n0, self, wait, role, lead, term, ticks, ws⟩, every, limit, now, ats⟩ := s
  simp only at hn h1 h2 h3 hs ht0 ht1 hw0 hw1 hn0 hn1 hws
  subst hn
  by_cases h4 : role = 4
  · subst h4
    cases hb : decide ((now + 1) % every = 0)
    · have e := rtick4n h h1 h2 h3 _ hb hs ht0 ht1 hw0 hw1 hn0 hn1 hn8 hws rfl
      simpa [RN.tick, Nd.rtick, hb] using e
    · have e := rtick4y h h1 h2 h3 _ hb hs ht0 ht1 hw0 hw1 hn0 hn1 hn8 hws rfl
      simpa [RN.tick, Nd.rtick, hb] using e
  by_cases h0 : role = 0
  · subst h0
    by_cases hl : lead < 0
    · have e := rtick0m h h1 h2 h3 _ rfl hs ht0 ht1 hw0 hw1 hn0 hn1 hn8 hws hl
      have ha : aliveB xs limit lead = false := by unfold aliveB inR; simp; omega
      simpa [RN.tick, Nd.rtick, ha] using e
    · cases ha : aliveB xs limit lead
      · have e := rtick0n h h1 h2 h3 _ rfl hs ht0 ht1 hw0 hw1 hn0 hn1 hn8 hws ha (by omega)
        simpa [RN.tick, Nd.rtick, ha] using e
      · have e := rtick0y h h1 h2 h3 _ rfl hs ht0 ht1 hw0 hw1 hn0 hn1 hn8 hws ha (by omega)
        simpa [RN.tick, Nd.rtick, ha] using e
  by_cases hr1 : role = 1
  · subst hr1
    by_cases hq : ticks + 1 = wait
    · have e := rtick1y h h1 h2 h3 _ rfl hs ht0 ht1 hw0 hw1 hn0 hn1 hn8 hws hq
      simpa [RN.tick, Nd.rtick, hq] using e
    · have e := rtick1n h h1 h2 h3 _ rfl hs ht0 ht1 hw0 hw1 hn0 hn1 hn8 hws hq
      simpa [RN.tick, Nd.rtick, hq] using e
  by_cases hr2 : role = 2
  · subst hr2
    by_cases hq : ticks + 1 = 2 * wait
    · have e := rtick2y h h1 h2 h3 _ rfl hs ht0 ht1 hw0 hw1 hn0 hn1 hn8 hws hq
      simpa [RN.tick, Nd.rtick, hq] using e
    · have e := rtick2n h h1 h2 h3 _ rfl hs ht0 ht1 hw0 hw1 hn0 hn1 hn8 hws hq
      simpa [RN.tick, Nd.rtick, hq] using e
  have e := rtickr h h1 h2 h3 _ rfl hs ht0 ht1 hw0 hw1 hn0 hn1 hn8 hws ⟨h0, hr1, hr2, h4⟩
  simpa [RN.tick, Nd.rtick, h0, hr1, hr2, h4] using e
end Go.Proofs.Ytccmnphjiebiaaa
