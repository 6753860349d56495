/- A node takes a word. Conditions: the node and its detector lie whole in memory; not many words wait. -/
import Derived.Test.YtccmnphjiebiaaaTs
namespace Go.Proofs.Ytccmnphjiebiaaa
open Go.RowKit G
set_option linter.unusedVariables false
set_option linter.unusedSimpArgs false
attribute [local go_sem] upon_value upon_skip upon_enter runAt_run
def Nd.take (x : Nd) (y : Wd) : Nd :=
  if y.k = 1 then (if x.self < y.f then x else if x.role = 0 then (x.say 2 y.f 0).ask else x.say 2 y.f 0)
  else if y.k = 2 then (if x.role = 1 then x.turn 2 else x)
  else if x.term ≤ y.m then Nd.turn { x with term := y.m, lead := y.f } 0 else x
set_option maxHeartbeats 4000000 in
theorem ntake_no {w : World} {P D S n : Nat} {v : Value} {self wait role lead term ticks : Int} {ws : List Wd} {xs : List Int} {every limit left : Int} (h : PAt w P D S v ⟨⟨n, self, wait, role, lead, term, ticks, ws⟩, xs, every, limit, left⟩) ( k f t m c : Int) (hc : checkE n self ⟨k, f, t, m⟩ = c)
    (hn0 : 0 ≤ self) (hn1 : self < n) (hn8 : n ≤ 8) (hws : ws.length ≤ 1048000) (hne : c ≠ 0) :
    Calls Try.prog 10 #[.pointer (some ⟨P, 0, none⟩), .agg #[.int .i64 k, .int .i64 f, .int .i64 t, .int .i64 m]] w fun e w' => e = .returned (.int .i64 c) ∧ ∃ u, PAt w' P D S u ⟨⟨n, self, wait, role, lead, term, ticks, ws⟩, xs, every, limit, left⟩ ∧ Stp (fp P D S v) (fp P D S u) w w' := by
  have HB := Lib.hid (And.intro hn0 (And.intro hn1 (And.intro hn8 hws)))
  have hcb : (c == 0) = false := by simp [hne]
  clear hne
  have HC := Lib.hid hc
  clear hc hn0 hn1 hn8 hws
  go_enter Try.func10, Try.ntmps10
  go_upto_region 1 with (fail)
  have HT := Lib.hid (TS.start h #[.int .i64 k, .int .i64 f, .int .i64 t, .int .i64 m])
  clear h
  generalize w.alloc (.cells #[.int .i64 k, .int .i64 f, .int .i64 t, .int .i64 m] 35) = wc at HT ⊢
  generalize w.heap.size = B at HT ⊢
  have c0 : wc.cell? ⟨P, 0, none⟩ = some (.int .i64 n) := HT.out.p.nd.r.cell 0 _ rfl
  have c1 : wc.cell? ⟨P, 1, none⟩ = some (.int .i64 self) := HT.out.p.nd.r.cell 1 _ rfl
  have c3 : wc.cell? ⟨P, 3, none⟩ = some (.int .i64 role) := HT.out.p.nd.r.cell 3 _ rfl
  have c4 : wc.cell? ⟨P, 4, none⟩ = some (.int .i64 lead) := HT.out.p.nd.r.cell 4 _ rfl
  have c5 : wc.cell? ⟨P, 5, none⟩ = some (.int .i64 term) := HT.out.p.nd.r.cell 5 _ rfl
  have c7 : wc.cell? ⟨P, 7, none⟩ = some (ptr D) := HT.out.p.nd.r.cell 7 _ rfl
  have cf : ∀ i, wc.frozen? ⟨P, i, none⟩ = false := HT.out.p.nd.r.free
  have b0 : wc.cell? ⟨B, 0, none⟩ = some (.int .i64 k) := HT.out.b.cell 0 _ rfl
  have b1 : wc.cell? ⟨B, 1, none⟩ = some (.int .i64 f) := HT.out.b.cell 1 _ rfl
  have b2 : wc.cell? ⟨B, 2, none⟩ = some (.int .i64 t) := HT.out.b.cell 2 _ rfl
  have b3 : wc.cell? ⟨B, 3, none⟩ = some (.int .i64 m) := HT.out.b.cell 3 _ rfl
  go_upto_region 2 with (go_at_call 38; (with_reducible refine (check_any HT.out.p.nd k f t m _ HC.out).mono ?_); rintro e' w1 ⟨rfl, hb1⟩)
  have HT2 := Lib.hid (HT.out.below hb1)
  clear hb1 HT
  clear c0 c1 c3 c4 c5 c7 cf b0 b1 b2 b3
  have HT := HT2
  clear HT2
  have c0 : w1.cell? ⟨P, 0, none⟩ = some (.int .i64 n) := HT.out.p.nd.r.cell 0 _ rfl
  have c1 : w1.cell? ⟨P, 1, none⟩ = some (.int .i64 self) := HT.out.p.nd.r.cell 1 _ rfl
  have c3 : w1.cell? ⟨P, 3, none⟩ = some (.int .i64 role) := HT.out.p.nd.r.cell 3 _ rfl
  have c4 : w1.cell? ⟨P, 4, none⟩ = some (.int .i64 lead) := HT.out.p.nd.r.cell 4 _ rfl
  have c5 : w1.cell? ⟨P, 5, none⟩ = some (.int .i64 term) := HT.out.p.nd.r.cell 5 _ rfl
  have c7 : w1.cell? ⟨P, 7, none⟩ = some (ptr D) := HT.out.p.nd.r.cell 7 _ rfl
  have cf : ∀ i, w1.frozen? ⟨P, i, none⟩ = false := HT.out.p.nd.r.free
  have b0 : w1.cell? ⟨B, 0, none⟩ = some (.int .i64 k) := HT.out.b.cell 0 _ rfl
  have b1 : w1.cell? ⟨B, 1, none⟩ = some (.int .i64 f) := HT.out.b.cell 1 _ rfl
  have b2 : w1.cell? ⟨B, 2, none⟩ = some (.int .i64 t) := HT.out.b.cell 2 _ rfl
  have b3 : w1.cell? ⟨B, 3, none⟩ = some (.int .i64 m) := HT.out.b.cell 3 _ rfl
  go_wp2
  go_ret
  exact ⟨rfl, _, HT.out.p, HT.out.u⟩
set_option maxHeartbeats 4000000 in
theorem ntake1g {w : World} {P D S n : Nat} {v : Value} {self wait role lead term ticks : Int} {ws : List Wd} {xs : List Int} {every limit left : Int} (h : PAt w P D S v ⟨⟨n, self, wait, role, lead, term, ticks, ws⟩, xs, every, limit, left⟩) ( f t m c : Int) (hc : checkE n self ⟨1, f, t, m⟩ = c)
    (hn0 : 0 ≤ self) (hn1 : self < n) (hn8 : n ≤ 8) (hws : ws.length ≤ 1048000) (h0 : c = 0) (hq : self < f) :
    Calls Try.prog 10 #[.pointer (some ⟨P, 0, none⟩), .agg #[.int .i64 1, .int .i64 f, .int .i64 t, .int .i64 m]] w fun e w' => e = .returned (.int .i64 0) ∧ ∃ u, PAt w' P D S u ⟨⟨n, self, wait, role, lead, term, ticks, ws⟩, heardR xs f, every, limit, left⟩ ∧ Stp (fp P D S v) (fp P D S u) w w' := by
  have HB := Lib.hid (And.intro hn0 (And.intro hn1 (And.intro hn8 hws)))
  subst h0
  have HC := Lib.hid hc
  clear hc hn0 hn1 hn8 hws
  go_enter Try.func10, Try.ntmps10
  go_upto_region 1 with (fail)
  have HT := Lib.hid (TS.start h #[.int .i64 1, .int .i64 f, .int .i64 t, .int .i64 m])
  clear h
  generalize w.alloc (.cells #[.int .i64 1, .int .i64 f, .int .i64 t, .int .i64 m] 35) = wc at HT ⊢
  generalize w.heap.size = B at HT ⊢
  have c0 : wc.cell? ⟨P, 0, none⟩ = some (.int .i64 n) := HT.out.p.nd.r.cell 0 _ rfl
  have c1 : wc.cell? ⟨P, 1, none⟩ = some (.int .i64 self) := HT.out.p.nd.r.cell 1 _ rfl
  have c3 : wc.cell? ⟨P, 3, none⟩ = some (.int .i64 role) := HT.out.p.nd.r.cell 3 _ rfl
  have c4 : wc.cell? ⟨P, 4, none⟩ = some (.int .i64 lead) := HT.out.p.nd.r.cell 4 _ rfl
  have c5 : wc.cell? ⟨P, 5, none⟩ = some (.int .i64 term) := HT.out.p.nd.r.cell 5 _ rfl
  have c7 : wc.cell? ⟨P, 7, none⟩ = some (ptr D) := HT.out.p.nd.r.cell 7 _ rfl
  have cf : ∀ i, wc.frozen? ⟨P, i, none⟩ = false := HT.out.p.nd.r.free
  have b0 : wc.cell? ⟨B, 0, none⟩ = some (.int .i64 1) := HT.out.b.cell 0 _ rfl
  have b1 : wc.cell? ⟨B, 1, none⟩ = some (.int .i64 f) := HT.out.b.cell 1 _ rfl
  have b2 : wc.cell? ⟨B, 2, none⟩ = some (.int .i64 t) := HT.out.b.cell 2 _ rfl
  have b3 : wc.cell? ⟨B, 3, none⟩ = some (.int .i64 m) := HT.out.b.cell 3 _ rfl
  go_upto_region 2 with (go_at_call 38; (with_reducible refine (check_any HT.out.p.nd 1 f t m _ HC.out).mono ?_); rintro e' w1 ⟨rfl, hb1⟩)
  have HT2 := Lib.hid (HT.out.below hb1)
  clear hb1 HT
  clear c0 c1 c3 c4 c5 c7 cf b0 b1 b2 b3
  have HT := HT2
  clear HT2
  have c0 : w1.cell? ⟨P, 0, none⟩ = some (.int .i64 n) := HT.out.p.nd.r.cell 0 _ rfl
  have c1 : w1.cell? ⟨P, 1, none⟩ = some (.int .i64 self) := HT.out.p.nd.r.cell 1 _ rfl
  have c3 : w1.cell? ⟨P, 3, none⟩ = some (.int .i64 role) := HT.out.p.nd.r.cell 3 _ rfl
  have c4 : w1.cell? ⟨P, 4, none⟩ = some (.int .i64 lead) := HT.out.p.nd.r.cell 4 _ rfl
  have c5 : w1.cell? ⟨P, 5, none⟩ = some (.int .i64 term) := HT.out.p.nd.r.cell 5 _ rfl
  have c7 : w1.cell? ⟨P, 7, none⟩ = some (ptr D) := HT.out.p.nd.r.cell 7 _ rfl
  have cf : ∀ i, w1.frozen? ⟨P, i, none⟩ = false := HT.out.p.nd.r.free
  have b0 : w1.cell? ⟨B, 0, none⟩ = some (.int .i64 1) := HT.out.b.cell 0 _ rfl
  have b1 : w1.cell? ⟨B, 1, none⟩ = some (.int .i64 f) := HT.out.b.cell 1 _ rfl
  have b2 : w1.cell? ⟨B, 2, none⟩ = some (.int .i64 t) := HT.out.b.cell 2 _ rfl
  have b3 : w1.cell? ⟨B, 3, none⟩ = some (.int .i64 m) := HT.out.b.cell 3 _ rfl
  go_upto_region 4 with (fail)
  refine region_gen (Cl 6 w1 (fun wv => wv.cell? ⟨P, 7, none⟩ = some (ptr D) ∧ wv.cell? ⟨B, 1, none⟩ = some (.int .i64 f)) (fun _ wv => TS w wv P D S v v ⟨⟨n, self, wait, role, lead, term, ticks, ws⟩, heardR xs f, every, limit, left⟩ B #[.int .i64 1, .int .i64 f, .int .i64 t, .int .i64 m])) (by kernel_rfl) (by kernel_rfl) (Cl.start ⟨c7, b1⟩) ?_
  repeat
    (refine step_gen (by decide) (by rfl) (fun K hK => ?_)
     go_simp
     first
       | (with_reducible apply H1.one
          · intro σ wv hk hd hv
            obtain ⟨z7, z1⟩ := hv.i
            have Hv := Lib.hid hv
            clear hv
            go_simp
            (first
              | (with_reducible refine ⟨rfl, ?_⟩; exact Cl.pure Hv.out (by decide))
              | (obtain ⟨m_, rfl⟩ := Hv.out.a hk
                 refine (heard_any (HT.out.p.dt.drewN m_) f).mono ?_
                 rintro e2 w2 ⟨rfl, hd2, hk2⟩
                 have ht2 := (HT.out.drewN m_).det hd2 hk2
                 exact ⟨_, rfl, rfl, Cl.call ⟨ht2.p.nd.r.cell 7 _ rfl, ht2.b.cell 1 _ rfl⟩ ht2⟩))
          refine hK _ _ _ ?_
          clear hK K))
  refine nil_gen ?_
  intro σ w2 hall ht hv
  have hn6 := hall 6 (by decide)
  cases e6 : σ 6 with
  | none => rw [e6] at hn6; cases hn6
  | some y =>
  have HT2 := Lib.hid (hv.b y e6)
  clear hv hall ht hn6 e6 HT
  clear c0 c1 c3 c4 c5 c7 cf b0 b1 b2 b3
  clear y σ
  have HT := HT2
  clear HT2
  have c0 : w2.cell? ⟨P, 0, none⟩ = some (.int .i64 n) := HT.out.p.nd.r.cell 0 _ rfl
  have c1 : w2.cell? ⟨P, 1, none⟩ = some (.int .i64 self) := HT.out.p.nd.r.cell 1 _ rfl
  have c3 : w2.cell? ⟨P, 3, none⟩ = some (.int .i64 role) := HT.out.p.nd.r.cell 3 _ rfl
  have c4 : w2.cell? ⟨P, 4, none⟩ = some (.int .i64 lead) := HT.out.p.nd.r.cell 4 _ rfl
  have c5 : w2.cell? ⟨P, 5, none⟩ = some (.int .i64 term) := HT.out.p.nd.r.cell 5 _ rfl
  have c7 : w2.cell? ⟨P, 7, none⟩ = some (ptr D) := HT.out.p.nd.r.cell 7 _ rfl
  have cf : ∀ i, w2.frozen? ⟨P, i, none⟩ = false := HT.out.p.nd.r.free
  have b0 : w2.cell? ⟨B, 0, none⟩ = some (.int .i64 1) := HT.out.b.cell 0 _ rfl
  have b1 : w2.cell? ⟨B, 1, none⟩ = some (.int .i64 f) := HT.out.b.cell 1 _ rfl
  have b2 : w2.cell? ⟨B, 2, none⟩ = some (.int .i64 t) := HT.out.b.cell 2 _ rfl
  have b3 : w2.cell? ⟨B, 3, none⟩ = some (.int .i64 m) := HT.out.b.cell 3 _ rfl
  go_upto_region 7 with (fail)
  refine region_gen (Rd w2) (by kernel_rfl) (by kernel_rfl) (Rd.start _) ?_
  repeat
    (refine step_gen (by decide) (by rfl) (fun K hK => ?_)
     go_simp
     first
       | (with_reducible refine Sk.of Rd.skips ?_
          refine hK _ _ _ ?_
          clear hK K)
       | (with_reducible apply H1.one
          · intro σ wv hk hd hv
            obtain ⟨⟨m_, rfl⟩⟩ := hv
            go_simp
            (with_reducible refine ⟨rfl, ?_⟩)
            exact ⟨m_, rfl⟩
          refine hK _ _ _ ?_
          clear hK K))
  refine nil_gen ?_
  rintro σ wv - - ⟨⟨nq, rfl⟩⟩
  clear σ
  have HT2 := Lib.hid (HT.out.drewN nq)
  clear HT
  generalize w2.drewN nq = W3 at HT2 ⊢
  clear c0 c1 c3 c4 c5 c7 cf b0 b1 b2 b3
  have HT := HT2
  clear HT2
  have c0 : W3.cell? ⟨P, 0, none⟩ = some (.int .i64 n) := HT.out.p.nd.r.cell 0 _ rfl
  have c1 : W3.cell? ⟨P, 1, none⟩ = some (.int .i64 self) := HT.out.p.nd.r.cell 1 _ rfl
  have c3 : W3.cell? ⟨P, 3, none⟩ = some (.int .i64 role) := HT.out.p.nd.r.cell 3 _ rfl
  have c4 : W3.cell? ⟨P, 4, none⟩ = some (.int .i64 lead) := HT.out.p.nd.r.cell 4 _ rfl
  have c5 : W3.cell? ⟨P, 5, none⟩ = some (.int .i64 term) := HT.out.p.nd.r.cell 5 _ rfl
  have c7 : W3.cell? ⟨P, 7, none⟩ = some (ptr D) := HT.out.p.nd.r.cell 7 _ rfl
  have cf : ∀ i, W3.frozen? ⟨P, i, none⟩ = false := HT.out.p.nd.r.free
  have b0 : W3.cell? ⟨B, 0, none⟩ = some (.int .i64 1) := HT.out.b.cell 0 _ rfl
  have b1 : W3.cell? ⟨B, 1, none⟩ = some (.int .i64 f) := HT.out.b.cell 1 _ rfl
  have b2 : W3.cell? ⟨B, 2, none⟩ = some (.int .i64 t) := HT.out.b.cell 2 _ rfl
  have b3 : W3.cell? ⟨B, 3, none⟩ = some (.int .i64 m) := HT.out.b.cell 3 _ rfl
  go_wp2
  go_ret
  exact ⟨rfl, _, HT.out.p, HT.out.u⟩
set_option maxHeartbeats 4000000 in
theorem ntake1n {w : World} {P D S n : Nat} {v : Value} {self wait role lead term ticks : Int} {ws : List Wd} {xs : List Int} {every limit left : Int} (h : PAt w P D S v ⟨⟨n, self, wait, role, lead, term, ticks, ws⟩, xs, every, limit, left⟩) ( f t m c : Int) (hc : checkE n self ⟨1, f, t, m⟩ = c)
    (hn0 : 0 ≤ self) (hn1 : self < n) (hn8 : n ≤ 8) (hws : ws.length ≤ 1048000) (h0 : c = 0) (hq : ¬ self < f) (hr : role ≠ 0) :
    Calls Try.prog 10 #[.pointer (some ⟨P, 0, none⟩), .agg #[.int .i64 1, .int .i64 f, .int .i64 t, .int .i64 m]] w fun e w' => e = .returned (.int .i64 0) ∧ ∃ u, PAt w' P D S u ⟨Nd.say ⟨n, self, wait, role, lead, term, ticks, ws⟩ 2 f 0, heardR xs f, every, limit, left⟩ ∧ Stp (fp P D S v) (fp P D S u) w w' := by
  have HB := Lib.hid (And.intro hn0 (And.intro hn1 (And.intro hn8 hws)))
  subst h0
  have HC := Lib.hid hc
  clear hc hn0 hn1 hn8 hws
  go_enter Try.func10, Try.ntmps10
  go_upto_region 1 with (fail)
  have HT := Lib.hid (TS.start h #[.int .i64 1, .int .i64 f, .int .i64 t, .int .i64 m])
  clear h
  generalize w.alloc (.cells #[.int .i64 1, .int .i64 f, .int .i64 t, .int .i64 m] 35) = wc at HT ⊢
  generalize w.heap.size = B at HT ⊢
  have c0 : wc.cell? ⟨P, 0, none⟩ = some (.int .i64 n) := HT.out.p.nd.r.cell 0 _ rfl
  have c1 : wc.cell? ⟨P, 1, none⟩ = some (.int .i64 self) := HT.out.p.nd.r.cell 1 _ rfl
  have c3 : wc.cell? ⟨P, 3, none⟩ = some (.int .i64 role) := HT.out.p.nd.r.cell 3 _ rfl
  have c4 : wc.cell? ⟨P, 4, none⟩ = some (.int .i64 lead) := HT.out.p.nd.r.cell 4 _ rfl
  have c5 : wc.cell? ⟨P, 5, none⟩ = some (.int .i64 term) := HT.out.p.nd.r.cell 5 _ rfl
  have c7 : wc.cell? ⟨P, 7, none⟩ = some (ptr D) := HT.out.p.nd.r.cell 7 _ rfl
  have cf : ∀ i, wc.frozen? ⟨P, i, none⟩ = false := HT.out.p.nd.r.free
  have b0 : wc.cell? ⟨B, 0, none⟩ = some (.int .i64 1) := HT.out.b.cell 0 _ rfl
  have b1 : wc.cell? ⟨B, 1, none⟩ = some (.int .i64 f) := HT.out.b.cell 1 _ rfl
  have b2 : wc.cell? ⟨B, 2, none⟩ = some (.int .i64 t) := HT.out.b.cell 2 _ rfl
  have b3 : wc.cell? ⟨B, 3, none⟩ = some (.int .i64 m) := HT.out.b.cell 3 _ rfl
  go_upto_region 2 with (go_at_call 38; (with_reducible refine (check_any HT.out.p.nd 1 f t m _ HC.out).mono ?_); rintro e' w1 ⟨rfl, hb1⟩)
  have HT2 := Lib.hid (HT.out.below hb1)
  clear hb1 HT
  clear c0 c1 c3 c4 c5 c7 cf b0 b1 b2 b3
  have HT := HT2
  clear HT2
  have c0 : w1.cell? ⟨P, 0, none⟩ = some (.int .i64 n) := HT.out.p.nd.r.cell 0 _ rfl
  have c1 : w1.cell? ⟨P, 1, none⟩ = some (.int .i64 self) := HT.out.p.nd.r.cell 1 _ rfl
  have c3 : w1.cell? ⟨P, 3, none⟩ = some (.int .i64 role) := HT.out.p.nd.r.cell 3 _ rfl
  have c4 : w1.cell? ⟨P, 4, none⟩ = some (.int .i64 lead) := HT.out.p.nd.r.cell 4 _ rfl
  have c5 : w1.cell? ⟨P, 5, none⟩ = some (.int .i64 term) := HT.out.p.nd.r.cell 5 _ rfl
  have c7 : w1.cell? ⟨P, 7, none⟩ = some (ptr D) := HT.out.p.nd.r.cell 7 _ rfl
  have cf : ∀ i, w1.frozen? ⟨P, i, none⟩ = false := HT.out.p.nd.r.free
  have b0 : w1.cell? ⟨B, 0, none⟩ = some (.int .i64 1) := HT.out.b.cell 0 _ rfl
  have b1 : w1.cell? ⟨B, 1, none⟩ = some (.int .i64 f) := HT.out.b.cell 1 _ rfl
  have b2 : w1.cell? ⟨B, 2, none⟩ = some (.int .i64 t) := HT.out.b.cell 2 _ rfl
  have b3 : w1.cell? ⟨B, 3, none⟩ = some (.int .i64 m) := HT.out.b.cell 3 _ rfl
  go_upto_region 4 with (fail)
  refine region_gen (Cl 6 w1 (fun wv => wv.cell? ⟨P, 7, none⟩ = some (ptr D) ∧ wv.cell? ⟨B, 1, none⟩ = some (.int .i64 f)) (fun _ wv => TS w wv P D S v v ⟨⟨n, self, wait, role, lead, term, ticks, ws⟩, heardR xs f, every, limit, left⟩ B #[.int .i64 1, .int .i64 f, .int .i64 t, .int .i64 m])) (by kernel_rfl) (by kernel_rfl) (Cl.start ⟨c7, b1⟩) ?_
  repeat
    (refine step_gen (by decide) (by rfl) (fun K hK => ?_)
     go_simp
     first
       | (with_reducible apply H1.one
          · intro σ wv hk hd hv
            obtain ⟨z7, z1⟩ := hv.i
            have Hv := Lib.hid hv
            clear hv
            go_simp
            (first
              | (with_reducible refine ⟨rfl, ?_⟩; exact Cl.pure Hv.out (by decide))
              | (obtain ⟨m_, rfl⟩ := Hv.out.a hk
                 refine (heard_any (HT.out.p.dt.drewN m_) f).mono ?_
                 rintro e2 w2 ⟨rfl, hd2, hk2⟩
                 have ht2 := (HT.out.drewN m_).det hd2 hk2
                 exact ⟨_, rfl, rfl, Cl.call ⟨ht2.p.nd.r.cell 7 _ rfl, ht2.b.cell 1 _ rfl⟩ ht2⟩))
          refine hK _ _ _ ?_
          clear hK K))
  refine nil_gen ?_
  intro σ w2 hall ht hv
  have hn6 := hall 6 (by decide)
  cases e6 : σ 6 with
  | none => rw [e6] at hn6; cases hn6
  | some y =>
  have HT2 := Lib.hid (hv.b y e6)
  clear hv hall ht hn6 e6 HT
  clear c0 c1 c3 c4 c5 c7 cf b0 b1 b2 b3
  clear y σ
  have HT := HT2
  clear HT2
  have c0 : w2.cell? ⟨P, 0, none⟩ = some (.int .i64 n) := HT.out.p.nd.r.cell 0 _ rfl
  have c1 : w2.cell? ⟨P, 1, none⟩ = some (.int .i64 self) := HT.out.p.nd.r.cell 1 _ rfl
  have c3 : w2.cell? ⟨P, 3, none⟩ = some (.int .i64 role) := HT.out.p.nd.r.cell 3 _ rfl
  have c4 : w2.cell? ⟨P, 4, none⟩ = some (.int .i64 lead) := HT.out.p.nd.r.cell 4 _ rfl
  have c5 : w2.cell? ⟨P, 5, none⟩ = some (.int .i64 term) := HT.out.p.nd.r.cell 5 _ rfl
  have c7 : w2.cell? ⟨P, 7, none⟩ = some (ptr D) := HT.out.p.nd.r.cell 7 _ rfl
  have cf : ∀ i, w2.frozen? ⟨P, i, none⟩ = false := HT.out.p.nd.r.free
  have b0 : w2.cell? ⟨B, 0, none⟩ = some (.int .i64 1) := HT.out.b.cell 0 _ rfl
  have b1 : w2.cell? ⟨B, 1, none⟩ = some (.int .i64 f) := HT.out.b.cell 1 _ rfl
  have b2 : w2.cell? ⟨B, 2, none⟩ = some (.int .i64 t) := HT.out.b.cell 2 _ rfl
  have b3 : w2.cell? ⟨B, 3, none⟩ = some (.int .i64 m) := HT.out.b.cell 3 _ rfl
  have hrb : (role == 0) = false := by simp [hr]
  clear hr
  go_upto_region 7 with (fail)
  refine region_gen (Rd w2) (by kernel_rfl) (by kernel_rfl) (Rd.start _) ?_
  repeat
    (refine step_gen (by decide) (by rfl) (fun K hK => ?_)
     go_simp
     first
       | (with_reducible refine Sk.of Rd.skips ?_
          refine hK _ _ _ ?_
          clear hK K)
       | (with_reducible apply H1.one
          · intro σ wv hk hd hv
            obtain ⟨⟨m_, rfl⟩⟩ := hv
            go_simp
            (with_reducible refine ⟨rfl, ?_⟩)
            exact ⟨m_, rfl⟩
          refine hK _ _ _ ?_
          clear hK K))
  refine nil_gen ?_
  rintro σ wv - - ⟨⟨nq, rfl⟩⟩
  clear σ
  have HT2 := Lib.hid (HT.out.drewN nq)
  clear HT
  generalize w2.drewN nq = W3 at HT2 ⊢
  clear c0 c1 c3 c4 c5 c7 cf b0 b1 b2 b3
  have HT := HT2
  clear HT2
  have c0 : W3.cell? ⟨P, 0, none⟩ = some (.int .i64 n) := HT.out.p.nd.r.cell 0 _ rfl
  have c1 : W3.cell? ⟨P, 1, none⟩ = some (.int .i64 self) := HT.out.p.nd.r.cell 1 _ rfl
  have c3 : W3.cell? ⟨P, 3, none⟩ = some (.int .i64 role) := HT.out.p.nd.r.cell 3 _ rfl
  have c4 : W3.cell? ⟨P, 4, none⟩ = some (.int .i64 lead) := HT.out.p.nd.r.cell 4 _ rfl
  have c5 : W3.cell? ⟨P, 5, none⟩ = some (.int .i64 term) := HT.out.p.nd.r.cell 5 _ rfl
  have c7 : W3.cell? ⟨P, 7, none⟩ = some (ptr D) := HT.out.p.nd.r.cell 7 _ rfl
  have cf : ∀ i, W3.frozen? ⟨P, i, none⟩ = false := HT.out.p.nd.r.free
  have b0 : W3.cell? ⟨B, 0, none⟩ = some (.int .i64 1) := HT.out.b.cell 0 _ rfl
  have b1 : W3.cell? ⟨B, 1, none⟩ = some (.int .i64 f) := HT.out.b.cell 1 _ rfl
  have b2 : W3.cell? ⟨B, 2, none⟩ = some (.int .i64 t) := HT.out.b.cell 2 _ rfl
  have b3 : W3.cell? ⟨B, 3, none⟩ = some (.int .i64 m) := HT.out.b.cell 3 _ rfl
  go_upto_region 9 with (go_at_call 40; (with_reducible refine (nsay (show NodeAt 69 35 _ P ⟨n, self, wait, role, lead, term, ticks, ws⟩ (ptr D) v from HT.out.p.nd) 2 f 0 (by have := HB.out.2.2.2; simp only []; omega)).mono ?_); rintro e' w3 ⟨rfl, u3, hd3, hm3⟩)
  have HT2 := Lib.hid (HT.out.node hd3 hm3 rfl)
  clear hd3 hm3 HT
  clear c0 c1 c3 c4 c5 c7 cf b0 b1 b2 b3
  have c3 : w3.cell? ⟨P, 3, none⟩ = some (.int .i64 role) := HT2.out.p.nd.r.cell 3 _ rfl
  have HT := HT2
  clear HT2
  go_wp2
  go_ret
  exact ⟨rfl, _, HT.out.p, HT.out.u⟩
set_option maxHeartbeats 4000000 in
theorem ntake1a {w : World} {P D S n : Nat} {v : Value} {self wait lead term ticks : Int} {ws : List Wd} {xs : List Int} {every limit left : Int} (h : PAt w P D S v ⟨⟨n, self, wait, 0, lead, term, ticks, ws⟩, xs, every, limit, left⟩) ( f t m c : Int) (hc : checkE n self ⟨1, f, t, m⟩ = c)
    (hn0 : 0 ≤ self) (hn1 : self < n) (hn8 : n ≤ 8) (hws : ws.length ≤ 1048000) (h0 : c = 0) (hq : ¬ self < f) :
    Calls Try.prog 10 #[.pointer (some ⟨P, 0, none⟩), .agg #[.int .i64 1, .int .i64 f, .int .i64 t, .int .i64 m]] w fun e w' => e = .returned (.int .i64 0) ∧ ∃ u, PAt w' P D S u ⟨Nd.ask (Nd.say ⟨n, self, wait, 0, lead, term, ticks, ws⟩ 2 f 0), heardR xs f, every, limit, left⟩ ∧ Stp (fp P D S v) (fp P D S u) w w' := by
  have HB := Lib.hid (And.intro hn0 (And.intro hn1 (And.intro hn8 hws)))
  subst h0
  have HC := Lib.hid hc
  clear hc hn0 hn1 hn8 hws
  go_enter Try.func10, Try.ntmps10
  go_upto_region 1 with (fail)
  have HT := Lib.hid (TS.start h #[.int .i64 1, .int .i64 f, .int .i64 t, .int .i64 m])
  clear h
  generalize w.alloc (.cells #[.int .i64 1, .int .i64 f, .int .i64 t, .int .i64 m] 35) = wc at HT ⊢
  generalize w.heap.size = B at HT ⊢
  have c0 : wc.cell? ⟨P, 0, none⟩ = some (.int .i64 n) := HT.out.p.nd.r.cell 0 _ rfl
  have c1 : wc.cell? ⟨P, 1, none⟩ = some (.int .i64 self) := HT.out.p.nd.r.cell 1 _ rfl
  have c3 : wc.cell? ⟨P, 3, none⟩ = some (.int .i64 0) := HT.out.p.nd.r.cell 3 _ rfl
  have c4 : wc.cell? ⟨P, 4, none⟩ = some (.int .i64 lead) := HT.out.p.nd.r.cell 4 _ rfl
  have c5 : wc.cell? ⟨P, 5, none⟩ = some (.int .i64 term) := HT.out.p.nd.r.cell 5 _ rfl
  have c7 : wc.cell? ⟨P, 7, none⟩ = some (ptr D) := HT.out.p.nd.r.cell 7 _ rfl
  have cf : ∀ i, wc.frozen? ⟨P, i, none⟩ = false := HT.out.p.nd.r.free
  have b0 : wc.cell? ⟨B, 0, none⟩ = some (.int .i64 1) := HT.out.b.cell 0 _ rfl
  have b1 : wc.cell? ⟨B, 1, none⟩ = some (.int .i64 f) := HT.out.b.cell 1 _ rfl
  have b2 : wc.cell? ⟨B, 2, none⟩ = some (.int .i64 t) := HT.out.b.cell 2 _ rfl
  have b3 : wc.cell? ⟨B, 3, none⟩ = some (.int .i64 m) := HT.out.b.cell 3 _ rfl
  go_upto_region 2 with (go_at_call 38; (with_reducible refine (check_any HT.out.p.nd 1 f t m _ HC.out).mono ?_); rintro e' w1 ⟨rfl, hb1⟩)
  have HT2 := Lib.hid (HT.out.below hb1)
  clear hb1 HT
  clear c0 c1 c3 c4 c5 c7 cf b0 b1 b2 b3
  have HT := HT2
  clear HT2
  have c0 : w1.cell? ⟨P, 0, none⟩ = some (.int .i64 n) := HT.out.p.nd.r.cell 0 _ rfl
  have c1 : w1.cell? ⟨P, 1, none⟩ = some (.int .i64 self) := HT.out.p.nd.r.cell 1 _ rfl
  have c3 : w1.cell? ⟨P, 3, none⟩ = some (.int .i64 0) := HT.out.p.nd.r.cell 3 _ rfl
  have c4 : w1.cell? ⟨P, 4, none⟩ = some (.int .i64 lead) := HT.out.p.nd.r.cell 4 _ rfl
  have c5 : w1.cell? ⟨P, 5, none⟩ = some (.int .i64 term) := HT.out.p.nd.r.cell 5 _ rfl
  have c7 : w1.cell? ⟨P, 7, none⟩ = some (ptr D) := HT.out.p.nd.r.cell 7 _ rfl
  have cf : ∀ i, w1.frozen? ⟨P, i, none⟩ = false := HT.out.p.nd.r.free
  have b0 : w1.cell? ⟨B, 0, none⟩ = some (.int .i64 1) := HT.out.b.cell 0 _ rfl
  have b1 : w1.cell? ⟨B, 1, none⟩ = some (.int .i64 f) := HT.out.b.cell 1 _ rfl
  have b2 : w1.cell? ⟨B, 2, none⟩ = some (.int .i64 t) := HT.out.b.cell 2 _ rfl
  have b3 : w1.cell? ⟨B, 3, none⟩ = some (.int .i64 m) := HT.out.b.cell 3 _ rfl
  go_upto_region 4 with (fail)
  refine region_gen (Cl 6 w1 (fun wv => wv.cell? ⟨P, 7, none⟩ = some (ptr D) ∧ wv.cell? ⟨B, 1, none⟩ = some (.int .i64 f)) (fun _ wv => TS w wv P D S v v ⟨⟨n, self, wait, 0, lead, term, ticks, ws⟩, heardR xs f, every, limit, left⟩ B #[.int .i64 1, .int .i64 f, .int .i64 t, .int .i64 m])) (by kernel_rfl) (by kernel_rfl) (Cl.start ⟨c7, b1⟩) ?_
  repeat
    (refine step_gen (by decide) (by rfl) (fun K hK => ?_)
     go_simp
     first
       | (with_reducible apply H1.one
          · intro σ wv hk hd hv
            obtain ⟨z7, z1⟩ := hv.i
            have Hv := Lib.hid hv
            clear hv
            go_simp
            (first
              | (with_reducible refine ⟨rfl, ?_⟩; exact Cl.pure Hv.out (by decide))
              | (obtain ⟨m_, rfl⟩ := Hv.out.a hk
                 refine (heard_any (HT.out.p.dt.drewN m_) f).mono ?_
                 rintro e2 w2 ⟨rfl, hd2, hk2⟩
                 have ht2 := (HT.out.drewN m_).det hd2 hk2
                 exact ⟨_, rfl, rfl, Cl.call ⟨ht2.p.nd.r.cell 7 _ rfl, ht2.b.cell 1 _ rfl⟩ ht2⟩))
          refine hK _ _ _ ?_
          clear hK K))
  refine nil_gen ?_
  intro σ w2 hall ht hv
  have hn6 := hall 6 (by decide)
  cases e6 : σ 6 with
  | none => rw [e6] at hn6; cases hn6
  | some y =>
  have HT2 := Lib.hid (hv.b y e6)
  clear hv hall ht hn6 e6 HT
  clear c0 c1 c3 c4 c5 c7 cf b0 b1 b2 b3
  clear y σ
  have HT := HT2
  clear HT2
  have c0 : w2.cell? ⟨P, 0, none⟩ = some (.int .i64 n) := HT.out.p.nd.r.cell 0 _ rfl
  have c1 : w2.cell? ⟨P, 1, none⟩ = some (.int .i64 self) := HT.out.p.nd.r.cell 1 _ rfl
  have c3 : w2.cell? ⟨P, 3, none⟩ = some (.int .i64 0) := HT.out.p.nd.r.cell 3 _ rfl
  have c4 : w2.cell? ⟨P, 4, none⟩ = some (.int .i64 lead) := HT.out.p.nd.r.cell 4 _ rfl
  have c5 : w2.cell? ⟨P, 5, none⟩ = some (.int .i64 term) := HT.out.p.nd.r.cell 5 _ rfl
  have c7 : w2.cell? ⟨P, 7, none⟩ = some (ptr D) := HT.out.p.nd.r.cell 7 _ rfl
  have cf : ∀ i, w2.frozen? ⟨P, i, none⟩ = false := HT.out.p.nd.r.free
  have b0 : w2.cell? ⟨B, 0, none⟩ = some (.int .i64 1) := HT.out.b.cell 0 _ rfl
  have b1 : w2.cell? ⟨B, 1, none⟩ = some (.int .i64 f) := HT.out.b.cell 1 _ rfl
  have b2 : w2.cell? ⟨B, 2, none⟩ = some (.int .i64 t) := HT.out.b.cell 2 _ rfl
  have b3 : w2.cell? ⟨B, 3, none⟩ = some (.int .i64 m) := HT.out.b.cell 3 _ rfl
  go_upto_region 7 with (fail)
  refine region_gen (Rd w2) (by kernel_rfl) (by kernel_rfl) (Rd.start _) ?_
  repeat
    (refine step_gen (by decide) (by rfl) (fun K hK => ?_)
     go_simp
     first
       | (with_reducible refine Sk.of Rd.skips ?_
          refine hK _ _ _ ?_
          clear hK K)
       | (with_reducible apply H1.one
          · intro σ wv hk hd hv
            obtain ⟨⟨m_, rfl⟩⟩ := hv
            go_simp
            (with_reducible refine ⟨rfl, ?_⟩)
            exact ⟨m_, rfl⟩
          refine hK _ _ _ ?_
          clear hK K))
  refine nil_gen ?_
  rintro σ wv - - ⟨⟨nq, rfl⟩⟩
  clear σ
  have HT2 := Lib.hid (HT.out.drewN nq)
  clear HT
  generalize w2.drewN nq = W3 at HT2 ⊢
  clear c0 c1 c3 c4 c5 c7 cf b0 b1 b2 b3
  have HT := HT2
  clear HT2
  have c0 : W3.cell? ⟨P, 0, none⟩ = some (.int .i64 n) := HT.out.p.nd.r.cell 0 _ rfl
  have c1 : W3.cell? ⟨P, 1, none⟩ = some (.int .i64 self) := HT.out.p.nd.r.cell 1 _ rfl
  have c3 : W3.cell? ⟨P, 3, none⟩ = some (.int .i64 0) := HT.out.p.nd.r.cell 3 _ rfl
  have c4 : W3.cell? ⟨P, 4, none⟩ = some (.int .i64 lead) := HT.out.p.nd.r.cell 4 _ rfl
  have c5 : W3.cell? ⟨P, 5, none⟩ = some (.int .i64 term) := HT.out.p.nd.r.cell 5 _ rfl
  have c7 : W3.cell? ⟨P, 7, none⟩ = some (ptr D) := HT.out.p.nd.r.cell 7 _ rfl
  have cf : ∀ i, W3.frozen? ⟨P, i, none⟩ = false := HT.out.p.nd.r.free
  have b0 : W3.cell? ⟨B, 0, none⟩ = some (.int .i64 1) := HT.out.b.cell 0 _ rfl
  have b1 : W3.cell? ⟨B, 1, none⟩ = some (.int .i64 f) := HT.out.b.cell 1 _ rfl
  have b2 : W3.cell? ⟨B, 2, none⟩ = some (.int .i64 t) := HT.out.b.cell 2 _ rfl
  have b3 : W3.cell? ⟨B, 3, none⟩ = some (.int .i64 m) := HT.out.b.cell 3 _ rfl
  go_upto_region 9 with (go_at_call 40; (with_reducible refine (nsay (show NodeAt 69 35 _ P ⟨n, self, wait, 0, lead, term, ticks, ws⟩ (ptr D) v from HT.out.p.nd) 2 f 0 (by have := HB.out.2.2.2; simp only []; omega)).mono ?_); rintro e' w3 ⟨rfl, u3, hd3, hm3⟩)
  have HT2 := Lib.hid (HT.out.node hd3 hm3 rfl)
  clear hd3 hm3 HT
  clear c0 c1 c3 c4 c5 c7 cf b0 b1 b2 b3
  have c3 : w3.cell? ⟨P, 3, none⟩ = some (.int .i64 0) := HT2.out.p.nd.r.cell 3 _ rfl
  have HT := HT2
  clear HT2
  go_wp2_with (go_at_call 32; (with_reducible refine (ask_any (show NodeAt 69 35 _ P ⟨n, self, wait, 0, lead, term, ticks, ws ++ [⟨2, self, f, 0⟩]⟩ (ptr D) u3 from HT.out.p.nd) HB.out.1 HB.out.2.1 (by have := HB.out.2.2.1; omega) (by have := HB.out.2.2.2; simp only [List.length_append, List.length_singleton]; omega)).mono ?_); rintro e' w4 ⟨rfl, HR⟩)
  obtain ⟨u4, hd4, hm4⟩ := HR
  have HT2 := Lib.hid (HT.out.node hd4 hm4 (Nd.ask_self _))
  clear hd4 hm4 HT
  go_ret
  exact ⟨rfl, _, HT2.out.p, HT2.out.u⟩
set_option maxHeartbeats 4000000 in
theorem ntake2y {w : World} {P D S n : Nat} {v : Value} {self wait lead term ticks : Int} {ws : List Wd} {xs : List Int} {every limit left : Int} (h : PAt w P D S v ⟨⟨n, self, wait, 1, lead, term, ticks, ws⟩, xs, every, limit, left⟩) ( f t m c : Int) (hc : checkE n self ⟨2, f, t, m⟩ = c)
    (hn0 : 0 ≤ self) (hn1 : self < n) (hn8 : n ≤ 8) (hws : ws.length ≤ 1048000) (h0 : c = 0) :
    Calls Try.prog 10 #[.pointer (some ⟨P, 0, none⟩), .agg #[.int .i64 2, .int .i64 f, .int .i64 t, .int .i64 m]] w fun e w' => e = .returned (.int .i64 0) ∧ ∃ u, PAt w' P D S u ⟨Nd.turn ⟨n, self, wait, 1, lead, term, ticks, ws⟩ 2, heardR xs f, every, limit, left⟩ ∧ Stp (fp P D S v) (fp P D S u) w w' := by
  have HB := Lib.hid (And.intro hn0 (And.intro hn1 (And.intro hn8 hws)))
  subst h0
  have HC := Lib.hid hc
  clear hc hn0 hn1 hn8 hws
  go_enter Try.func10, Try.ntmps10
  go_upto_region 1 with (fail)
  have HT := Lib.hid (TS.start h #[.int .i64 2, .int .i64 f, .int .i64 t, .int .i64 m])
  clear h
  generalize w.alloc (.cells #[.int .i64 2, .int .i64 f, .int .i64 t, .int .i64 m] 35) = wc at HT ⊢
  generalize w.heap.size = B at HT ⊢
  have c0 : wc.cell? ⟨P, 0, none⟩ = some (.int .i64 n) := HT.out.p.nd.r.cell 0 _ rfl
  have c1 : wc.cell? ⟨P, 1, none⟩ = some (.int .i64 self) := HT.out.p.nd.r.cell 1 _ rfl
  have c3 : wc.cell? ⟨P, 3, none⟩ = some (.int .i64 1) := HT.out.p.nd.r.cell 3 _ rfl
  have c4 : wc.cell? ⟨P, 4, none⟩ = some (.int .i64 lead) := HT.out.p.nd.r.cell 4 _ rfl
  have c5 : wc.cell? ⟨P, 5, none⟩ = some (.int .i64 term) := HT.out.p.nd.r.cell 5 _ rfl
  have c7 : wc.cell? ⟨P, 7, none⟩ = some (ptr D) := HT.out.p.nd.r.cell 7 _ rfl
  have cf : ∀ i, wc.frozen? ⟨P, i, none⟩ = false := HT.out.p.nd.r.free
  have b0 : wc.cell? ⟨B, 0, none⟩ = some (.int .i64 2) := HT.out.b.cell 0 _ rfl
  have b1 : wc.cell? ⟨B, 1, none⟩ = some (.int .i64 f) := HT.out.b.cell 1 _ rfl
  have b2 : wc.cell? ⟨B, 2, none⟩ = some (.int .i64 t) := HT.out.b.cell 2 _ rfl
  have b3 : wc.cell? ⟨B, 3, none⟩ = some (.int .i64 m) := HT.out.b.cell 3 _ rfl
  go_upto_region 2 with (go_at_call 38; (with_reducible refine (check_any HT.out.p.nd 2 f t m _ HC.out).mono ?_); rintro e' w1 ⟨rfl, hb1⟩)
  have HT2 := Lib.hid (HT.out.below hb1)
  clear hb1 HT
  clear c0 c1 c3 c4 c5 c7 cf b0 b1 b2 b3
  have HT := HT2
  clear HT2
  have c0 : w1.cell? ⟨P, 0, none⟩ = some (.int .i64 n) := HT.out.p.nd.r.cell 0 _ rfl
  have c1 : w1.cell? ⟨P, 1, none⟩ = some (.int .i64 self) := HT.out.p.nd.r.cell 1 _ rfl
  have c3 : w1.cell? ⟨P, 3, none⟩ = some (.int .i64 1) := HT.out.p.nd.r.cell 3 _ rfl
  have c4 : w1.cell? ⟨P, 4, none⟩ = some (.int .i64 lead) := HT.out.p.nd.r.cell 4 _ rfl
  have c5 : w1.cell? ⟨P, 5, none⟩ = some (.int .i64 term) := HT.out.p.nd.r.cell 5 _ rfl
  have c7 : w1.cell? ⟨P, 7, none⟩ = some (ptr D) := HT.out.p.nd.r.cell 7 _ rfl
  have cf : ∀ i, w1.frozen? ⟨P, i, none⟩ = false := HT.out.p.nd.r.free
  have b0 : w1.cell? ⟨B, 0, none⟩ = some (.int .i64 2) := HT.out.b.cell 0 _ rfl
  have b1 : w1.cell? ⟨B, 1, none⟩ = some (.int .i64 f) := HT.out.b.cell 1 _ rfl
  have b2 : w1.cell? ⟨B, 2, none⟩ = some (.int .i64 t) := HT.out.b.cell 2 _ rfl
  have b3 : w1.cell? ⟨B, 3, none⟩ = some (.int .i64 m) := HT.out.b.cell 3 _ rfl
  go_upto_region 4 with (fail)
  refine region_gen (Cl 6 w1 (fun wv => wv.cell? ⟨P, 7, none⟩ = some (ptr D) ∧ wv.cell? ⟨B, 1, none⟩ = some (.int .i64 f)) (fun _ wv => TS w wv P D S v v ⟨⟨n, self, wait, 1, lead, term, ticks, ws⟩, heardR xs f, every, limit, left⟩ B #[.int .i64 2, .int .i64 f, .int .i64 t, .int .i64 m])) (by kernel_rfl) (by kernel_rfl) (Cl.start ⟨c7, b1⟩) ?_
  repeat
    (refine step_gen (by decide) (by rfl) (fun K hK => ?_)
     go_simp
     first
       | (with_reducible apply H1.one
          · intro σ wv hk hd hv
            obtain ⟨z7, z1⟩ := hv.i
            have Hv := Lib.hid hv
            clear hv
            go_simp
            (first
              | (with_reducible refine ⟨rfl, ?_⟩; exact Cl.pure Hv.out (by decide))
              | (obtain ⟨m_, rfl⟩ := Hv.out.a hk
                 refine (heard_any (HT.out.p.dt.drewN m_) f).mono ?_
                 rintro e2 w2 ⟨rfl, hd2, hk2⟩
                 have ht2 := (HT.out.drewN m_).det hd2 hk2
                 exact ⟨_, rfl, rfl, Cl.call ⟨ht2.p.nd.r.cell 7 _ rfl, ht2.b.cell 1 _ rfl⟩ ht2⟩))
          refine hK _ _ _ ?_
          clear hK K))
  refine nil_gen ?_
  intro σ w2 hall ht hv
  have hn6 := hall 6 (by decide)
  cases e6 : σ 6 with
  | none => rw [e6] at hn6; cases hn6
  | some y =>
  have HT2 := Lib.hid (hv.b y e6)
  clear hv hall ht hn6 e6 HT
  clear c0 c1 c3 c4 c5 c7 cf b0 b1 b2 b3
  clear y σ
  have HT := HT2
  clear HT2
  have c0 : w2.cell? ⟨P, 0, none⟩ = some (.int .i64 n) := HT.out.p.nd.r.cell 0 _ rfl
  have c1 : w2.cell? ⟨P, 1, none⟩ = some (.int .i64 self) := HT.out.p.nd.r.cell 1 _ rfl
  have c3 : w2.cell? ⟨P, 3, none⟩ = some (.int .i64 1) := HT.out.p.nd.r.cell 3 _ rfl
  have c4 : w2.cell? ⟨P, 4, none⟩ = some (.int .i64 lead) := HT.out.p.nd.r.cell 4 _ rfl
  have c5 : w2.cell? ⟨P, 5, none⟩ = some (.int .i64 term) := HT.out.p.nd.r.cell 5 _ rfl
  have c7 : w2.cell? ⟨P, 7, none⟩ = some (ptr D) := HT.out.p.nd.r.cell 7 _ rfl
  have cf : ∀ i, w2.frozen? ⟨P, i, none⟩ = false := HT.out.p.nd.r.free
  have b0 : w2.cell? ⟨B, 0, none⟩ = some (.int .i64 2) := HT.out.b.cell 0 _ rfl
  have b1 : w2.cell? ⟨B, 1, none⟩ = some (.int .i64 f) := HT.out.b.cell 1 _ rfl
  have b2 : w2.cell? ⟨B, 2, none⟩ = some (.int .i64 t) := HT.out.b.cell 2 _ rfl
  have b3 : w2.cell? ⟨B, 3, none⟩ = some (.int .i64 m) := HT.out.b.cell 3 _ rfl
  go_wp2_with (go_at_call 33; (with_reducible refine (nturn HT.out.p.nd 2).mono ?_); rintro e' w4 ⟨rfl, HR⟩)
  obtain ⟨hd4, hm4⟩ := HR
  have HT2 := Lib.hid (HT.out.node hd4 hm4 rfl)
  clear hd4 hm4 HT
  go_ret
  exact ⟨rfl, _, HT2.out.p, HT2.out.u⟩
set_option maxHeartbeats 4000000 in
theorem ntake2n {w : World} {P D S n : Nat} {v : Value} {self wait role lead term ticks : Int} {ws : List Wd} {xs : List Int} {every limit left : Int} (h : PAt w P D S v ⟨⟨n, self, wait, role, lead, term, ticks, ws⟩, xs, every, limit, left⟩) ( f t m c : Int) (hc : checkE n self ⟨2, f, t, m⟩ = c)
    (hn0 : 0 ≤ self) (hn1 : self < n) (hn8 : n ≤ 8) (hws : ws.length ≤ 1048000) (h0 : c = 0) (hr : role ≠ 1) :
    Calls Try.prog 10 #[.pointer (some ⟨P, 0, none⟩), .agg #[.int .i64 2, .int .i64 f, .int .i64 t, .int .i64 m]] w fun e w' => e = .returned (.int .i64 0) ∧ ∃ u, PAt w' P D S u ⟨⟨n, self, wait, role, lead, term, ticks, ws⟩, heardR xs f, every, limit, left⟩ ∧ Stp (fp P D S v) (fp P D S u) w w' := by
  have HB := Lib.hid (And.intro hn0 (And.intro hn1 (And.intro hn8 hws)))
  subst h0
  have HC := Lib.hid hc
  clear hc hn0 hn1 hn8 hws
  go_enter Try.func10, Try.ntmps10
  go_upto_region 1 with (fail)
  have HT := Lib.hid (TS.start h #[.int .i64 2, .int .i64 f, .int .i64 t, .int .i64 m])
  clear h
  generalize w.alloc (.cells #[.int .i64 2, .int .i64 f, .int .i64 t, .int .i64 m] 35) = wc at HT ⊢
  generalize w.heap.size = B at HT ⊢
  have c0 : wc.cell? ⟨P, 0, none⟩ = some (.int .i64 n) := HT.out.p.nd.r.cell 0 _ rfl
  have c1 : wc.cell? ⟨P, 1, none⟩ = some (.int .i64 self) := HT.out.p.nd.r.cell 1 _ rfl
  have c3 : wc.cell? ⟨P, 3, none⟩ = some (.int .i64 role) := HT.out.p.nd.r.cell 3 _ rfl
  have c4 : wc.cell? ⟨P, 4, none⟩ = some (.int .i64 lead) := HT.out.p.nd.r.cell 4 _ rfl
  have c5 : wc.cell? ⟨P, 5, none⟩ = some (.int .i64 term) := HT.out.p.nd.r.cell 5 _ rfl
  have c7 : wc.cell? ⟨P, 7, none⟩ = some (ptr D) := HT.out.p.nd.r.cell 7 _ rfl
  have cf : ∀ i, wc.frozen? ⟨P, i, none⟩ = false := HT.out.p.nd.r.free
  have b0 : wc.cell? ⟨B, 0, none⟩ = some (.int .i64 2) := HT.out.b.cell 0 _ rfl
  have b1 : wc.cell? ⟨B, 1, none⟩ = some (.int .i64 f) := HT.out.b.cell 1 _ rfl
  have b2 : wc.cell? ⟨B, 2, none⟩ = some (.int .i64 t) := HT.out.b.cell 2 _ rfl
  have b3 : wc.cell? ⟨B, 3, none⟩ = some (.int .i64 m) := HT.out.b.cell 3 _ rfl
  go_upto_region 2 with (go_at_call 38; (with_reducible refine (check_any HT.out.p.nd 2 f t m _ HC.out).mono ?_); rintro e' w1 ⟨rfl, hb1⟩)
  have HT2 := Lib.hid (HT.out.below hb1)
  clear hb1 HT
  clear c0 c1 c3 c4 c5 c7 cf b0 b1 b2 b3
  have HT := HT2
  clear HT2
  have c0 : w1.cell? ⟨P, 0, none⟩ = some (.int .i64 n) := HT.out.p.nd.r.cell 0 _ rfl
  have c1 : w1.cell? ⟨P, 1, none⟩ = some (.int .i64 self) := HT.out.p.nd.r.cell 1 _ rfl
  have c3 : w1.cell? ⟨P, 3, none⟩ = some (.int .i64 role) := HT.out.p.nd.r.cell 3 _ rfl
  have c4 : w1.cell? ⟨P, 4, none⟩ = some (.int .i64 lead) := HT.out.p.nd.r.cell 4 _ rfl
  have c5 : w1.cell? ⟨P, 5, none⟩ = some (.int .i64 term) := HT.out.p.nd.r.cell 5 _ rfl
  have c7 : w1.cell? ⟨P, 7, none⟩ = some (ptr D) := HT.out.p.nd.r.cell 7 _ rfl
  have cf : ∀ i, w1.frozen? ⟨P, i, none⟩ = false := HT.out.p.nd.r.free
  have b0 : w1.cell? ⟨B, 0, none⟩ = some (.int .i64 2) := HT.out.b.cell 0 _ rfl
  have b1 : w1.cell? ⟨B, 1, none⟩ = some (.int .i64 f) := HT.out.b.cell 1 _ rfl
  have b2 : w1.cell? ⟨B, 2, none⟩ = some (.int .i64 t) := HT.out.b.cell 2 _ rfl
  have b3 : w1.cell? ⟨B, 3, none⟩ = some (.int .i64 m) := HT.out.b.cell 3 _ rfl
  go_upto_region 4 with (fail)
  refine region_gen (Cl 6 w1 (fun wv => wv.cell? ⟨P, 7, none⟩ = some (ptr D) ∧ wv.cell? ⟨B, 1, none⟩ = some (.int .i64 f)) (fun _ wv => TS w wv P D S v v ⟨⟨n, self, wait, role, lead, term, ticks, ws⟩, heardR xs f, every, limit, left⟩ B #[.int .i64 2, .int .i64 f, .int .i64 t, .int .i64 m])) (by kernel_rfl) (by kernel_rfl) (Cl.start ⟨c7, b1⟩) ?_
  repeat
    (refine step_gen (by decide) (by rfl) (fun K hK => ?_)
     go_simp
     first
       | (with_reducible apply H1.one
          · intro σ wv hk hd hv
            obtain ⟨z7, z1⟩ := hv.i
            have Hv := Lib.hid hv
            clear hv
            go_simp
            (first
              | (with_reducible refine ⟨rfl, ?_⟩; exact Cl.pure Hv.out (by decide))
              | (obtain ⟨m_, rfl⟩ := Hv.out.a hk
                 refine (heard_any (HT.out.p.dt.drewN m_) f).mono ?_
                 rintro e2 w2 ⟨rfl, hd2, hk2⟩
                 have ht2 := (HT.out.drewN m_).det hd2 hk2
                 exact ⟨_, rfl, rfl, Cl.call ⟨ht2.p.nd.r.cell 7 _ rfl, ht2.b.cell 1 _ rfl⟩ ht2⟩))
          refine hK _ _ _ ?_
          clear hK K))
  refine nil_gen ?_
  intro σ w2 hall ht hv
  have hn6 := hall 6 (by decide)
  cases e6 : σ 6 with
  | none => rw [e6] at hn6; cases hn6
  | some y =>
  have HT2 := Lib.hid (hv.b y e6)
  clear hv hall ht hn6 e6 HT
  clear c0 c1 c3 c4 c5 c7 cf b0 b1 b2 b3
  clear y σ
  have HT := HT2
  clear HT2
  have c0 : w2.cell? ⟨P, 0, none⟩ = some (.int .i64 n) := HT.out.p.nd.r.cell 0 _ rfl
  have c1 : w2.cell? ⟨P, 1, none⟩ = some (.int .i64 self) := HT.out.p.nd.r.cell 1 _ rfl
  have c3 : w2.cell? ⟨P, 3, none⟩ = some (.int .i64 role) := HT.out.p.nd.r.cell 3 _ rfl
  have c4 : w2.cell? ⟨P, 4, none⟩ = some (.int .i64 lead) := HT.out.p.nd.r.cell 4 _ rfl
  have c5 : w2.cell? ⟨P, 5, none⟩ = some (.int .i64 term) := HT.out.p.nd.r.cell 5 _ rfl
  have c7 : w2.cell? ⟨P, 7, none⟩ = some (ptr D) := HT.out.p.nd.r.cell 7 _ rfl
  have cf : ∀ i, w2.frozen? ⟨P, i, none⟩ = false := HT.out.p.nd.r.free
  have b0 : w2.cell? ⟨B, 0, none⟩ = some (.int .i64 2) := HT.out.b.cell 0 _ rfl
  have b1 : w2.cell? ⟨B, 1, none⟩ = some (.int .i64 f) := HT.out.b.cell 1 _ rfl
  have b2 : w2.cell? ⟨B, 2, none⟩ = some (.int .i64 t) := HT.out.b.cell 2 _ rfl
  have b3 : w2.cell? ⟨B, 3, none⟩ = some (.int .i64 m) := HT.out.b.cell 3 _ rfl
  have hrb : (role == 1) = false := by simp [hr]
  clear hr
  go_wp2
  go_ret
  exact ⟨rfl, _, HT.out.p, HT.out.u⟩
set_option maxHeartbeats 4000000 in
theorem ntake3n {w : World} {P D S n : Nat} {v : Value} {self wait role lead term ticks : Int} {ws : List Wd} {xs : List Int} {every limit left : Int} (h : PAt w P D S v ⟨⟨n, self, wait, role, lead, term, ticks, ws⟩, xs, every, limit, left⟩) ( f t m c : Int) (hc : checkE n self ⟨3, f, t, m⟩ = c)
    (hn0 : 0 ≤ self) (hn1 : self < n) (hn8 : n ≤ 8) (hws : ws.length ≤ 1048000) (h0 : c = 0) (hq : m < term) :
    Calls Try.prog 10 #[.pointer (some ⟨P, 0, none⟩), .agg #[.int .i64 3, .int .i64 f, .int .i64 t, .int .i64 m]] w fun e w' => e = .returned (.int .i64 0) ∧ ∃ u, PAt w' P D S u ⟨⟨n, self, wait, role, lead, term, ticks, ws⟩, heardR xs f, every, limit, left⟩ ∧ Stp (fp P D S v) (fp P D S u) w w' := by
  have HB := Lib.hid (And.intro hn0 (And.intro hn1 (And.intro hn8 hws)))
  subst h0
  have HC := Lib.hid hc
  clear hc hn0 hn1 hn8 hws
  go_enter Try.func10, Try.ntmps10
  go_upto_region 1 with (fail)
  have HT := Lib.hid (TS.start h #[.int .i64 3, .int .i64 f, .int .i64 t, .int .i64 m])
  clear h
  generalize w.alloc (.cells #[.int .i64 3, .int .i64 f, .int .i64 t, .int .i64 m] 35) = wc at HT ⊢
  generalize w.heap.size = B at HT ⊢
  have c0 : wc.cell? ⟨P, 0, none⟩ = some (.int .i64 n) := HT.out.p.nd.r.cell 0 _ rfl
  have c1 : wc.cell? ⟨P, 1, none⟩ = some (.int .i64 self) := HT.out.p.nd.r.cell 1 _ rfl
  have c3 : wc.cell? ⟨P, 3, none⟩ = some (.int .i64 role) := HT.out.p.nd.r.cell 3 _ rfl
  have c4 : wc.cell? ⟨P, 4, none⟩ = some (.int .i64 lead) := HT.out.p.nd.r.cell 4 _ rfl
  have c5 : wc.cell? ⟨P, 5, none⟩ = some (.int .i64 term) := HT.out.p.nd.r.cell 5 _ rfl
  have c7 : wc.cell? ⟨P, 7, none⟩ = some (ptr D) := HT.out.p.nd.r.cell 7 _ rfl
  have cf : ∀ i, wc.frozen? ⟨P, i, none⟩ = false := HT.out.p.nd.r.free
  have b0 : wc.cell? ⟨B, 0, none⟩ = some (.int .i64 3) := HT.out.b.cell 0 _ rfl
  have b1 : wc.cell? ⟨B, 1, none⟩ = some (.int .i64 f) := HT.out.b.cell 1 _ rfl
  have b2 : wc.cell? ⟨B, 2, none⟩ = some (.int .i64 t) := HT.out.b.cell 2 _ rfl
  have b3 : wc.cell? ⟨B, 3, none⟩ = some (.int .i64 m) := HT.out.b.cell 3 _ rfl
  go_upto_region 2 with (go_at_call 38; (with_reducible refine (check_any HT.out.p.nd 3 f t m _ HC.out).mono ?_); rintro e' w1 ⟨rfl, hb1⟩)
  have HT2 := Lib.hid (HT.out.below hb1)
  clear hb1 HT
  clear c0 c1 c3 c4 c5 c7 cf b0 b1 b2 b3
  have HT := HT2
  clear HT2
  have c0 : w1.cell? ⟨P, 0, none⟩ = some (.int .i64 n) := HT.out.p.nd.r.cell 0 _ rfl
  have c1 : w1.cell? ⟨P, 1, none⟩ = some (.int .i64 self) := HT.out.p.nd.r.cell 1 _ rfl
  have c3 : w1.cell? ⟨P, 3, none⟩ = some (.int .i64 role) := HT.out.p.nd.r.cell 3 _ rfl
  have c4 : w1.cell? ⟨P, 4, none⟩ = some (.int .i64 lead) := HT.out.p.nd.r.cell 4 _ rfl
  have c5 : w1.cell? ⟨P, 5, none⟩ = some (.int .i64 term) := HT.out.p.nd.r.cell 5 _ rfl
  have c7 : w1.cell? ⟨P, 7, none⟩ = some (ptr D) := HT.out.p.nd.r.cell 7 _ rfl
  have cf : ∀ i, w1.frozen? ⟨P, i, none⟩ = false := HT.out.p.nd.r.free
  have b0 : w1.cell? ⟨B, 0, none⟩ = some (.int .i64 3) := HT.out.b.cell 0 _ rfl
  have b1 : w1.cell? ⟨B, 1, none⟩ = some (.int .i64 f) := HT.out.b.cell 1 _ rfl
  have b2 : w1.cell? ⟨B, 2, none⟩ = some (.int .i64 t) := HT.out.b.cell 2 _ rfl
  have b3 : w1.cell? ⟨B, 3, none⟩ = some (.int .i64 m) := HT.out.b.cell 3 _ rfl
  go_upto_region 4 with (fail)
  refine region_gen (Cl 6 w1 (fun wv => wv.cell? ⟨P, 7, none⟩ = some (ptr D) ∧ wv.cell? ⟨B, 1, none⟩ = some (.int .i64 f)) (fun _ wv => TS w wv P D S v v ⟨⟨n, self, wait, role, lead, term, ticks, ws⟩, heardR xs f, every, limit, left⟩ B #[.int .i64 3, .int .i64 f, .int .i64 t, .int .i64 m])) (by kernel_rfl) (by kernel_rfl) (Cl.start ⟨c7, b1⟩) ?_
  repeat
    (refine step_gen (by decide) (by rfl) (fun K hK => ?_)
     go_simp
     first
       | (with_reducible apply H1.one
          · intro σ wv hk hd hv
            obtain ⟨z7, z1⟩ := hv.i
            have Hv := Lib.hid hv
            clear hv
            go_simp
            (first
              | (with_reducible refine ⟨rfl, ?_⟩; exact Cl.pure Hv.out (by decide))
              | (obtain ⟨m_, rfl⟩ := Hv.out.a hk
                 refine (heard_any (HT.out.p.dt.drewN m_) f).mono ?_
                 rintro e2 w2 ⟨rfl, hd2, hk2⟩
                 have ht2 := (HT.out.drewN m_).det hd2 hk2
                 exact ⟨_, rfl, rfl, Cl.call ⟨ht2.p.nd.r.cell 7 _ rfl, ht2.b.cell 1 _ rfl⟩ ht2⟩))
          refine hK _ _ _ ?_
          clear hK K))
  refine nil_gen ?_
  intro σ w2 hall ht hv
  have hn6 := hall 6 (by decide)
  cases e6 : σ 6 with
  | none => rw [e6] at hn6; cases hn6
  | some y =>
  have HT2 := Lib.hid (hv.b y e6)
  clear hv hall ht hn6 e6 HT
  clear c0 c1 c3 c4 c5 c7 cf b0 b1 b2 b3
  clear y σ
  have HT := HT2
  clear HT2
  have c0 : w2.cell? ⟨P, 0, none⟩ = some (.int .i64 n) := HT.out.p.nd.r.cell 0 _ rfl
  have c1 : w2.cell? ⟨P, 1, none⟩ = some (.int .i64 self) := HT.out.p.nd.r.cell 1 _ rfl
  have c3 : w2.cell? ⟨P, 3, none⟩ = some (.int .i64 role) := HT.out.p.nd.r.cell 3 _ rfl
  have c4 : w2.cell? ⟨P, 4, none⟩ = some (.int .i64 lead) := HT.out.p.nd.r.cell 4 _ rfl
  have c5 : w2.cell? ⟨P, 5, none⟩ = some (.int .i64 term) := HT.out.p.nd.r.cell 5 _ rfl
  have c7 : w2.cell? ⟨P, 7, none⟩ = some (ptr D) := HT.out.p.nd.r.cell 7 _ rfl
  have cf : ∀ i, w2.frozen? ⟨P, i, none⟩ = false := HT.out.p.nd.r.free
  have b0 : w2.cell? ⟨B, 0, none⟩ = some (.int .i64 3) := HT.out.b.cell 0 _ rfl
  have b1 : w2.cell? ⟨B, 1, none⟩ = some (.int .i64 f) := HT.out.b.cell 1 _ rfl
  have b2 : w2.cell? ⟨B, 2, none⟩ = some (.int .i64 t) := HT.out.b.cell 2 _ rfl
  have b3 : w2.cell? ⟨B, 3, none⟩ = some (.int .i64 m) := HT.out.b.cell 3 _ rfl
  go_upto_region 15 with (fail)
  refine region_gen (Rd w2) (by kernel_rfl) (by kernel_rfl) (Rd.start _) ?_
  repeat
    (refine step_gen (by decide) (by rfl) (fun K hK => ?_)
     go_simp
     first
       | (with_reducible refine Sk.of Rd.skips ?_
          refine hK _ _ _ ?_
          clear hK K)
       | (with_reducible apply H1.one
          · intro σ wv hk hd hv
            obtain ⟨⟨m_, rfl⟩⟩ := hv
            go_simp
            (with_reducible refine ⟨rfl, ?_⟩)
            exact ⟨m_, rfl⟩
          refine hK _ _ _ ?_
          clear hK K))
  refine nil_gen ?_
  rintro σ wv - - ⟨⟨nq, rfl⟩⟩
  clear σ
  have HT2 := Lib.hid (HT.out.drewN nq)
  clear HT
  generalize w2.drewN nq = W3 at HT2 ⊢
  clear c0 c1 c3 c4 c5 c7 cf b0 b1 b2 b3
  have HT := HT2
  clear HT2
  have c0 : W3.cell? ⟨P, 0, none⟩ = some (.int .i64 n) := HT.out.p.nd.r.cell 0 _ rfl
  have c1 : W3.cell? ⟨P, 1, none⟩ = some (.int .i64 self) := HT.out.p.nd.r.cell 1 _ rfl
  have c3 : W3.cell? ⟨P, 3, none⟩ = some (.int .i64 role) := HT.out.p.nd.r.cell 3 _ rfl
  have c4 : W3.cell? ⟨P, 4, none⟩ = some (.int .i64 lead) := HT.out.p.nd.r.cell 4 _ rfl
  have c5 : W3.cell? ⟨P, 5, none⟩ = some (.int .i64 term) := HT.out.p.nd.r.cell 5 _ rfl
  have c7 : W3.cell? ⟨P, 7, none⟩ = some (ptr D) := HT.out.p.nd.r.cell 7 _ rfl
  have cf : ∀ i, W3.frozen? ⟨P, i, none⟩ = false := HT.out.p.nd.r.free
  have b0 : W3.cell? ⟨B, 0, none⟩ = some (.int .i64 3) := HT.out.b.cell 0 _ rfl
  have b1 : W3.cell? ⟨B, 1, none⟩ = some (.int .i64 f) := HT.out.b.cell 1 _ rfl
  have b2 : W3.cell? ⟨B, 2, none⟩ = some (.int .i64 t) := HT.out.b.cell 2 _ rfl
  have b3 : W3.cell? ⟨B, 3, none⟩ = some (.int .i64 m) := HT.out.b.cell 3 _ rfl
  go_wp2
  go_ret
  exact ⟨rfl, _, HT.out.p, HT.out.u⟩
set_option maxHeartbeats 4000000 in
theorem ntake3y {w : World} {P D S n : Nat} {v : Value} {self wait role lead term ticks : Int} {ws : List Wd} {xs : List Int} {every limit left : Int} (h : PAt w P D S v ⟨⟨n, self, wait, role, lead, term, ticks, ws⟩, xs, every, limit, left⟩) ( f t m c : Int) (hc : checkE n self ⟨3, f, t, m⟩ = c)
    (hn0 : 0 ≤ self) (hn1 : self < n) (hn8 : n ≤ 8) (hws : ws.length ≤ 1048000) (h0 : c = 0) (hq : term ≤ m) :
    Calls Try.prog 10 #[.pointer (some ⟨P, 0, none⟩), .agg #[.int .i64 3, .int .i64 f, .int .i64 t, .int .i64 m]] w fun e w' => e = .returned (.int .i64 0) ∧ ∃ u, PAt w' P D S u ⟨Nd.turn ⟨n, self, wait, role, f, m, ticks, ws⟩ 0, heardR xs f, every, limit, left⟩ ∧ Stp (fp P D S v) (fp P D S u) w w' := by
  have HB := Lib.hid (And.intro hn0 (And.intro hn1 (And.intro hn8 hws)))
  subst h0
  have HC := Lib.hid hc
  clear hc hn0 hn1 hn8 hws
  go_enter Try.func10, Try.ntmps10
  go_upto_region 1 with (fail)
  have HT := Lib.hid (TS.start h #[.int .i64 3, .int .i64 f, .int .i64 t, .int .i64 m])
  clear h
  generalize w.alloc (.cells #[.int .i64 3, .int .i64 f, .int .i64 t, .int .i64 m] 35) = wc at HT ⊢
  generalize w.heap.size = B at HT ⊢
  have c0 : wc.cell? ⟨P, 0, none⟩ = some (.int .i64 n) := HT.out.p.nd.r.cell 0 _ rfl
  have c1 : wc.cell? ⟨P, 1, none⟩ = some (.int .i64 self) := HT.out.p.nd.r.cell 1 _ rfl
  have c3 : wc.cell? ⟨P, 3, none⟩ = some (.int .i64 role) := HT.out.p.nd.r.cell 3 _ rfl
  have c4 : wc.cell? ⟨P, 4, none⟩ = some (.int .i64 lead) := HT.out.p.nd.r.cell 4 _ rfl
  have c5 : wc.cell? ⟨P, 5, none⟩ = some (.int .i64 term) := HT.out.p.nd.r.cell 5 _ rfl
  have c7 : wc.cell? ⟨P, 7, none⟩ = some (ptr D) := HT.out.p.nd.r.cell 7 _ rfl
  have cf : ∀ i, wc.frozen? ⟨P, i, none⟩ = false := HT.out.p.nd.r.free
  have b0 : wc.cell? ⟨B, 0, none⟩ = some (.int .i64 3) := HT.out.b.cell 0 _ rfl
  have b1 : wc.cell? ⟨B, 1, none⟩ = some (.int .i64 f) := HT.out.b.cell 1 _ rfl
  have b2 : wc.cell? ⟨B, 2, none⟩ = some (.int .i64 t) := HT.out.b.cell 2 _ rfl
  have b3 : wc.cell? ⟨B, 3, none⟩ = some (.int .i64 m) := HT.out.b.cell 3 _ rfl
  go_upto_region 2 with (go_at_call 38; (with_reducible refine (check_any HT.out.p.nd 3 f t m _ HC.out).mono ?_); rintro e' w1 ⟨rfl, hb1⟩)
  have HT2 := Lib.hid (HT.out.below hb1)
  clear hb1 HT
  clear c0 c1 c3 c4 c5 c7 cf b0 b1 b2 b3
  have HT := HT2
  clear HT2
  have c0 : w1.cell? ⟨P, 0, none⟩ = some (.int .i64 n) := HT.out.p.nd.r.cell 0 _ rfl
  have c1 : w1.cell? ⟨P, 1, none⟩ = some (.int .i64 self) := HT.out.p.nd.r.cell 1 _ rfl
  have c3 : w1.cell? ⟨P, 3, none⟩ = some (.int .i64 role) := HT.out.p.nd.r.cell 3 _ rfl
  have c4 : w1.cell? ⟨P, 4, none⟩ = some (.int .i64 lead) := HT.out.p.nd.r.cell 4 _ rfl
  have c5 : w1.cell? ⟨P, 5, none⟩ = some (.int .i64 term) := HT.out.p.nd.r.cell 5 _ rfl
  have c7 : w1.cell? ⟨P, 7, none⟩ = some (ptr D) := HT.out.p.nd.r.cell 7 _ rfl
  have cf : ∀ i, w1.frozen? ⟨P, i, none⟩ = false := HT.out.p.nd.r.free
  have b0 : w1.cell? ⟨B, 0, none⟩ = some (.int .i64 3) := HT.out.b.cell 0 _ rfl
  have b1 : w1.cell? ⟨B, 1, none⟩ = some (.int .i64 f) := HT.out.b.cell 1 _ rfl
  have b2 : w1.cell? ⟨B, 2, none⟩ = some (.int .i64 t) := HT.out.b.cell 2 _ rfl
  have b3 : w1.cell? ⟨B, 3, none⟩ = some (.int .i64 m) := HT.out.b.cell 3 _ rfl
  go_upto_region 4 with (fail)
  refine region_gen (Cl 6 w1 (fun wv => wv.cell? ⟨P, 7, none⟩ = some (ptr D) ∧ wv.cell? ⟨B, 1, none⟩ = some (.int .i64 f)) (fun _ wv => TS w wv P D S v v ⟨⟨n, self, wait, role, lead, term, ticks, ws⟩, heardR xs f, every, limit, left⟩ B #[.int .i64 3, .int .i64 f, .int .i64 t, .int .i64 m])) (by kernel_rfl) (by kernel_rfl) (Cl.start ⟨c7, b1⟩) ?_
  repeat
    (refine step_gen (by decide) (by rfl) (fun K hK => ?_)
     go_simp
     first
       | (with_reducible apply H1.one
          · intro σ wv hk hd hv
            obtain ⟨z7, z1⟩ := hv.i
            have Hv := Lib.hid hv
            clear hv
            go_simp
            (first
              | (with_reducible refine ⟨rfl, ?_⟩; exact Cl.pure Hv.out (by decide))
              | (obtain ⟨m_, rfl⟩ := Hv.out.a hk
                 refine (heard_any (HT.out.p.dt.drewN m_) f).mono ?_
                 rintro e2 w2 ⟨rfl, hd2, hk2⟩
                 have ht2 := (HT.out.drewN m_).det hd2 hk2
                 exact ⟨_, rfl, rfl, Cl.call ⟨ht2.p.nd.r.cell 7 _ rfl, ht2.b.cell 1 _ rfl⟩ ht2⟩))
          refine hK _ _ _ ?_
          clear hK K))
  refine nil_gen ?_
  intro σ w2 hall ht hv
  have hn6 := hall 6 (by decide)
  cases e6 : σ 6 with
  | none => rw [e6] at hn6; cases hn6
  | some y =>
  have HT2 := Lib.hid (hv.b y e6)
  clear hv hall ht hn6 e6 HT
  clear c0 c1 c3 c4 c5 c7 cf b0 b1 b2 b3
  clear y σ
  have HT := HT2
  clear HT2
  have c0 : w2.cell? ⟨P, 0, none⟩ = some (.int .i64 n) := HT.out.p.nd.r.cell 0 _ rfl
  have c1 : w2.cell? ⟨P, 1, none⟩ = some (.int .i64 self) := HT.out.p.nd.r.cell 1 _ rfl
  have c3 : w2.cell? ⟨P, 3, none⟩ = some (.int .i64 role) := HT.out.p.nd.r.cell 3 _ rfl
  have c4 : w2.cell? ⟨P, 4, none⟩ = some (.int .i64 lead) := HT.out.p.nd.r.cell 4 _ rfl
  have c5 : w2.cell? ⟨P, 5, none⟩ = some (.int .i64 term) := HT.out.p.nd.r.cell 5 _ rfl
  have c7 : w2.cell? ⟨P, 7, none⟩ = some (ptr D) := HT.out.p.nd.r.cell 7 _ rfl
  have cf : ∀ i, w2.frozen? ⟨P, i, none⟩ = false := HT.out.p.nd.r.free
  have b0 : w2.cell? ⟨B, 0, none⟩ = some (.int .i64 3) := HT.out.b.cell 0 _ rfl
  have b1 : w2.cell? ⟨B, 1, none⟩ = some (.int .i64 f) := HT.out.b.cell 1 _ rfl
  have b2 : w2.cell? ⟨B, 2, none⟩ = some (.int .i64 t) := HT.out.b.cell 2 _ rfl
  have b3 : w2.cell? ⟨B, 3, none⟩ = some (.int .i64 m) := HT.out.b.cell 3 _ rfl
  go_upto_region 15 with (fail)
  refine region_gen (Rd w2) (by kernel_rfl) (by kernel_rfl) (Rd.start _) ?_
  repeat
    (refine step_gen (by decide) (by rfl) (fun K hK => ?_)
     go_simp
     first
       | (with_reducible refine Sk.of Rd.skips ?_
          refine hK _ _ _ ?_
          clear hK K)
       | (with_reducible apply H1.one
          · intro σ wv hk hd hv
            obtain ⟨⟨m_, rfl⟩⟩ := hv
            go_simp
            (with_reducible refine ⟨rfl, ?_⟩)
            exact ⟨m_, rfl⟩
          refine hK _ _ _ ?_
          clear hK K))
  refine nil_gen ?_
  rintro σ wv - - ⟨⟨nq, rfl⟩⟩
  clear σ
  have HT2 := Lib.hid (HT.out.drewN nq)
  clear HT
  generalize w2.drewN nq = W3 at HT2 ⊢
  clear c0 c1 c3 c4 c5 c7 cf b0 b1 b2 b3
  have HT := HT2
  clear HT2
  have c0 : W3.cell? ⟨P, 0, none⟩ = some (.int .i64 n) := HT.out.p.nd.r.cell 0 _ rfl
  have c1 : W3.cell? ⟨P, 1, none⟩ = some (.int .i64 self) := HT.out.p.nd.r.cell 1 _ rfl
  have c3 : W3.cell? ⟨P, 3, none⟩ = some (.int .i64 role) := HT.out.p.nd.r.cell 3 _ rfl
  have c4 : W3.cell? ⟨P, 4, none⟩ = some (.int .i64 lead) := HT.out.p.nd.r.cell 4 _ rfl
  have c5 : W3.cell? ⟨P, 5, none⟩ = some (.int .i64 term) := HT.out.p.nd.r.cell 5 _ rfl
  have c7 : W3.cell? ⟨P, 7, none⟩ = some (ptr D) := HT.out.p.nd.r.cell 7 _ rfl
  have cf : ∀ i, W3.frozen? ⟨P, i, none⟩ = false := HT.out.p.nd.r.free
  have b0 : W3.cell? ⟨B, 0, none⟩ = some (.int .i64 3) := HT.out.b.cell 0 _ rfl
  have b1 : W3.cell? ⟨B, 1, none⟩ = some (.int .i64 f) := HT.out.b.cell 1 _ rfl
  have b2 : W3.cell? ⟨B, 2, none⟩ = some (.int .i64 t) := HT.out.b.cell 2 _ rfl
  have b3 : W3.cell? ⟨B, 3, none⟩ = some (.int .i64 m) := HT.out.b.cell 3 _ rfl
  go_upto_region 16 with (fail)
  refine region_gen (T16 w P D S v v ⟨⟨n, self, wait, role, lead, term, ticks, ws⟩, heardR xs f, every, limit, left⟩ B #[.int .i64 3, .int .i64 f, .int .i64 t, .int .i64 m] m f) (by kernel_rfl) (by kernel_rfl) (T16.start HT.out) ?_
  repeat
    (refine step_gen (by decide) (by rfl) (fun K hK => ?_)
     go_simp
     first
       | (with_reducible apply H1.one
          · intro σ wv hk hd hv
            have z1 : wv.cell? ⟨B, 1, none⟩ = some (.int .i64 f) := hv.t.b.cell 1 _ rfl
            have z3 : wv.cell? ⟨B, 3, none⟩ = some (.int .i64 m) := hv.t.b.cell 3 _ rfl
            have zf := hv.t.p.nd.r.free
            have z4 : wv.cell? ⟨P, 4, none⟩ = some (.int .i64 (if (σ 11).isSome = true then f else lead)) := hv.t.p.nd.r.cell 4 _ rfl
            have z5 : wv.cell? ⟨P, 5, none⟩ = some (.int .i64 (if (σ 8).isSome = true then m else term)) := hv.t.p.nd.r.cell 5 _ rfl
            have Hv := Lib.hid hv
            clear hv
            go_simp
            (with_reducible refine ⟨rfl, ?_⟩)
            (first
              | (exact T16.pure Hv.out (by decide))
              | (exact T16.s8 Hv.out hk)
              | (exact T16.s11 Hv.out hk))
          refine hK _ _ _ ?_
          clear hK K))
  refine nil_gen ?_
  intro σ w4 hall ht hv
  have hT := hv.t
  rw [hall 8 (by decide), hall 11 (by decide)] at hT
  clear hv hall ht HT
  clear c0 c1 c3 c4 c5 c7 cf b0 b1 b2 b3
  clear σ
  have HT := Lib.hid (show TS w w4 P D S v v ⟨⟨n, self, wait, role, f, m, ticks, ws⟩, heardR xs f, every, limit, left⟩ B #[.int .i64 3, .int .i64 f, .int .i64 t, .int .i64 m] from hT)
  clear hT
  go_wp2_with (go_at_call 33; (with_reducible refine (nturn HT.out.p.nd 0).mono ?_); rintro e' w5 ⟨rfl, HR⟩)
  obtain ⟨hd4, hm4⟩ := HR
  have HT2 := Lib.hid (HT.out.node hd4 hm4 rfl)
  clear hd4 hm4 HT
  go_ret
  exact ⟨rfl, _, HT2.out.p, HT2.out.u⟩
def PN.take (s : PN) (y : Wd) : PN := if checkE s.x.n s.x.self y = 0 then { s with x := s.x.take y, xs := heardR s.xs y.f } else s
/-- The program's node takes a word. -/
theorem ntake_any {w : World} {P D S n : Nat} {v : Value} {s : PN} (h : PAt w P D S v s) (hn : s.x.n = n) (y : Wd) (hn0 : 0 ≤ s.x.self) (hn1 : s.x.self < n) (hn8 : n ≤ 8) (hws : s.x.ws.length ≤ 1048000) :
    Calls Try.prog 10 #[.pointer (some ⟨P, 0, none⟩), .agg (wdc y).toArray] w fun e w' => e = .returned (.int .i64 (checkE s.x.n s.x.self y)) ∧ ∃ u, PAt w' P D S u (s.take y) ∧ Stp (fp P D S v) (fp P D S u) w w' := by
  obtain ⟨⟨n0, self, wait, role, lead, term, ticks, ws⟩, xs, every, limit, left⟩ := s
  obtain ⟨k, f, t, m⟩ := y
  simp only at hn hn0 hn1 hws
  subst hn
  simp only [wdc, PN.take]
  cases hc : decide (checkE n self ⟨k, f, t, m⟩ = 0)
  · simp only [decide_eq_false_iff_not] at hc
    rw [if_neg hc]
    exact ntake_no h k f t m _ rfl hn0 hn1 hn8 hws hc
  simp only [decide_eq_true_eq] at hc
  rw [if_pos hc, hc]
  have hk : k = 1 ∨ k = 2 ∨ k = 3 := by
    unfold checkE at hc
    simp only [] at hc
    split at hc
    · cases hc
    · split at hc
      · cases hc
      · omega
  rcases hk with rfl | rfl | rfl
  · by_cases hq : self < f
    · simpa [Nd.take, hq] using ntake1g h _ _ _ _ hc hn0 hn1 hn8 hws rfl hq
    · by_cases hr : role = 0
      · subst hr
        simpa [Nd.take, hq] using ntake1a h _ _ _ _ hc hn0 hn1 hn8 hws rfl hq
      · simpa [Nd.take, hq, hr] using ntake1n h _ _ _ _ hc hn0 hn1 hn8 hws rfl hq hr
  · by_cases hr : role = 1
    · subst hr
      simpa [Nd.take] using ntake2y h _ _ _ _ hc hn0 hn1 hn8 hws rfl
    · simpa [Nd.take, hr] using ntake2n h _ _ _ _ hc hn0 hn1 hn8 hws rfl hr
  · by_cases hq : term ≤ m
    · simpa [Nd.take, hq] using ntake3y h _ _ _ _ hc hn0 hn1 hn8 hws rfl hq
    · simpa [Nd.take, hq] using ntake3n h _ _ _ _ hc hn0 hn1 hn8 hws rfl (by omega)
end Go.Proofs.Ytccmnphjiebiaaa
